import Derived.Test.YtomjghlaoncpbaaShapA
set_option linter.unusedSimpArgs false
set_option linter.unusedVariables false
namespace Go.Proofs.Ytomjghlaoncpbaa
open Go.Proofs.YtomjghlaoncpbaaV
set_option maxHeartbeats 400000
set_option maxRecDepth 100000
/-- What names of types are: each is within another one. -/
abbrev Scp := List (Nms × Typs)
def zTyp : Typ := .mk 0 [] [] true
/-- A bound type. -/
def eBd : Scp → Typ → List V
  | [], t => cTyp t ++ [.sl [] true .no, .sl [] true .no]
  | (nm, ts) :: s, t => cTyp t ++ [.sl (nm.1.map eNm) nm.2 .no, .sl (ts.1.map (eBd s)) ts.1.isEmpty .no]
def nmS : Scp → Nms | [] => ([], true) | (nm, _) :: _ => nm
def tsS : Scp → List Typ | [] => [] | (_, ts) :: _ => ts.1
def outS : Scp → Scp | [] => [] | _ :: s => s
abbrev cBd (s : Scp) (t : Typ) : List V := [.int .i64 t.kind, .str t.name, .sl (t.args.map eTyp) t.nl .no, .sl ((nmS s).1.map eNm) (nmS s).2 .no, .sl ((tsS s).map (eBd (outS s))) (tsS s).isEmpty .no]
theorem eBd_eq (s : Scp) (t : Typ) : eBd s t = cBd s t := by
  cases s <;> rfl
theorem wid_eBd (s : Scp) (ts : List Typ) : wid 5 (ts.map (eBd s)) := wid_map (g := eBd s) (fun _ => by rw [eBd_eq]; rfl) _
theorem sca_eBd (s : Scp) (ts : List Typ) : sca (ts.map (eBd s)) := by
  intro e he x hx
  obtain ⟨u, _, rfl⟩ := List.mem_map.1 he
  rw [eBd_eq] at hx
  simp only [cBd, List.mem_cons, List.not_mem_nil, or_false] at hx
  rcases hx with rfl | rfl | rfl | rfl | rfl <;> rfl
def OkScp (s : Scp) : Prop := ∀ f ∈ s, f.1.1.length ≤ bulk ∧ f.2.1.length ≤ bulk ∧ ∀ t ∈ f.2.1, OkTyp t
/-- What a type is, and within which scope. -/
def meantF : Scp → Typ → Typ × Scp
  | [], t => if t.kind = 5 then (zTyp, []) else (t, [])
  | (nm, ts) :: s, t => if t.kind = 5 then (match nm.1.findIdx? (fun x => decide (t.name = x)) with
      | none => (zTyp, [])
      | some i => if h : i < ts.1.length then meantF s ts.1[i] else (zTyp, []))
    else (t, (nm, ts) :: s)
theorem meantF_no {s : Scp} {t : Typ} (h : ¬ t.kind = 5) : meantF s t = (t, s) := by
  cases s with
  | nil => rw [meantF, if_neg h]
  | cons f s => obtain ⟨nm, ts⟩ := f; rw [meantF, if_neg h]
theorem meantF_none {s : Scp} {t : Typ} (h : t.kind = 5) (hn : (nmS s).1.findIdx? (fun x => decide (t.name = x)) = none) : meantF s t = (zTyp, []) := by
  cases s with
  | nil => rw [meantF, if_pos h]
  | cons f s => obtain ⟨nm, ts⟩ := f; rw [meantF, if_pos h]; rw [nmS] at hn; rw [hn]
theorem meantF_out {s : Scp} {t : Typ} {i : Nat} (h : t.kind = 5) (hn : (nmS s).1.findIdx? (fun x => decide (t.name = x)) = some i) (hi : ¬ i < (tsS s).length) : meantF s t = (zTyp, []) := by
  cases s with
  | nil => rw [meantF, if_pos h]
  | cons f s => obtain ⟨nm, ts⟩ := f; rw [meantF, if_pos h]; rw [nmS] at hn; rw [hn]; exact dif_neg hi
theorem meantF_in {s : Scp} {t : Typ} {i : Nat} (h : t.kind = 5) (hn : (nmS s).1.findIdx? (fun x => decide (t.name = x)) = some i) (hi : i < (tsS s).length) : meantF s t = meantF (outS s) (tsS s)[i] ∧ (outS s).length < s.length := by
  cases s with
  | nil => simp [tsS] at hi
  | cons f s => obtain ⟨nm, ts⟩ := f; rw [meantF, if_pos h]; rw [nmS] at hn; rw [hn]; exact ⟨dif_pos hi, by simp [outS]⟩
theorem OkScp.nm {s : Scp} (h : OkScp s) : (nmS s).1.length ≤ bulk := by
  cases s with
  | nil => simp [nmS]
  | cons f s => exact (h f (by simp)).1
theorem OkScp.ts {s : Scp} (h : OkScp s) : (tsS s).length ≤ bulk ∧ ∀ t ∈ tsS s, OkTyp t := by
  cases s with
  | nil => simp [tsS]
  | cons f s => exact (h f (by simp)).2
theorem OkScp.out {s : Scp} (h : OkScp s) : OkScp (outS s) := by
  cases s with
  | nil => exact h
  | cons f s => exact fun g hg => h g (by simp [outS] at hg; simp [hg])
theorem OkZ : OkTyp zTyp := .mk (by decide) (by simp) (by simp) (by simp) (by simp)
theorem meantF_ok : ∀ {s : Scp} {t : Typ}, OkScp s → OkTyp t → OkTyp (meantF s t).1 ∧ OkScp (meantF s t).2
  | [], t, h, ht => by
    rw [meantF]
    split
    · exact ⟨OkZ, h⟩
    · exact ⟨ht, h⟩
  | (nm, ts) :: s, t, h, ht => by
    rw [meantF]
    split
    · split
      · exact ⟨OkZ, by intro f hf; cases hf⟩
      · split
        · rename_i i hi
          exact meantF_ok (fun f hf => h f (by simp [hf])) ((h (nm, ts) (by simp)).2.2 _ (List.getElem_mem hi))
        · exact ⟨OkZ, by intro f hf; cases hf⟩
    · exact ⟨ht, h⟩
theorem q_at (s : Scp) (t : Typ) (hs : OkScp s) : Quiet Try.prog 137 [.agg (cBd s t)] (.agg (eBd (meantF s t).2 (meantF s t).1)) := by
  refine Quiet.weak fun G => ?_
  refine acall_body (rs := [.cell 2 170]) Try.func137 rfl rfl Try.ntmps137 (by kernel_rfl) (Nat.le_of_ble_eq_true rfl) ?_
  refine aw_sr rfl ?_
  simp only [go_sem, reduceIte, Nat.reduceEqDiff, Nat.reduceAdd, Nat.reduceMul, Nat.reduceSub, Nat.reduceLeDiff, Nat.reduceLT, reduceCtorEq]
  intro b1 hb1 b2 hb2
  obtain ⟨n21, hb2'⟩ := fresh_cons hb2
  refine aw_seq fun K1 hK1 => ?_
  refine aw_block ?_
  refine aw_lph (S := {p : Scp × Typ // meantF p.1 p.2 = meantF s t ∧ OkScp p.1}) (fun p => [(1, .ptr b1 0), (2, .ptr b2 0)]) (fun p => [(b2, .vars [.int .i64 0, .str [], .sl [] true .full, .sl [] true .full, .sl [] true .full]), (b1, .vars (cBd p.1.1 p.1.2))] ++ G) (fun p => p.1.1.length) ⟨(s, t), rfl, hs⟩ ?_ (fun _ _ h => h) ?_
  · simp only [go_sem, reduceIte, Nat.reduceEqDiff, Nat.reduceAdd, Nat.reduceMul, Nat.reduceSub, Nat.reduceLeDiff, Nat.reduceLT, reduceCtorEq]
  intro ⟨⟨s, t⟩, h1, h2⟩
  simp only at h1 h2 ⊢
  refine aw_seq fun K2 hK2 => ?_
  refine aw_sr rfl ?_
  simp only [go_sem, reduceIte, Nat.reduceEqDiff, Nat.reduceAdd, Nat.reduceMul, Nat.reduceSub, Nat.reduceLeDiff, Nat.reduceLT, reduceCtorEq, n21]
  refine aw_if rfl (fun h => ?_) (fun h => ?_)
  · refine aw_skip (hK2 _ _ ?_)
    have h : t.kind = 5 := by simpa using h
    refine aw_block ?_
    refine aw_sr rfl ?_
    simp only [go_sem, reduceIte, Nat.reduceEqDiff, Nat.reduceAdd, Nat.reduceMul, Nat.reduceSub, Nat.reduceLeDiff, Nat.reduceLT, reduceCtorEq, n21]
    refine goA_q (q_IndexStr _ _ _ _ (le_bulk h2.nm)) ?_
    simp only [go_sem, reduceIte, Nat.reduceEqDiff, Nat.reduceAdd, Nat.reduceMul, Nat.reduceSub, Nat.reduceLeDiff, Nat.reduceLT, reduceCtorEq]
    refine aw_seq fun K3 hK3 => ?_
    refine aw_sr rfl ?_
    simp only [go_sem, reduceIte, Nat.reduceEqDiff, Nat.reduceAdd, Nat.reduceMul, Nat.reduceSub, Nat.reduceLeDiff, Nat.reduceLT, reduceCtorEq, n21]
    have hz : Vle (.agg [.int .i64 0, .str [], .sl [] true .full, .sl [] true .full, .sl [] true .full]) (.agg (eBd [] zTyp)) :=
      Vle.aggL (.cons (Vle.refl _) (.cons (Vle.refl _) (.cons Vle.untag (.cons Vle.untag (.cons Vle.untag .nil)))))
    cases hx : (nmS s).1.findIdx? (fun x => decide (t.name = x)) with
    | none =>
      have hm := meantF_none h hx
      have hneg : decide ((ixI none : Int) < 0) = true := rfl
      rw [hneg]
      refine aw_if rfl (fun h => ?_) (fun h => by simp at h)
      refine aw_sr rfl ?_
      simp only [go_sem, reduceIte, Nat.reduceEqDiff, Nat.reduceAdd, Nat.reduceMul, Nat.reduceSub, Nat.reduceLeDiff, Nat.reduceLT, reduceCtorEq]
      refine aw_ret ⟨trivial, [.agg [.int .i64 0, .str [], .sl [] true .full, .sl [] true .full, .sl [] true .full]], ?_, ?_, sub_fresh hb2' (sub_tail hb1)⟩
      · simp only [go_sem, reduceIte, Nat.reduceEqDiff, Nat.reduceAdd, Nat.reduceMul, Nat.reduceSub, Nat.reduceLeDiff, Nat.reduceLT, reduceCtorEq, resL, resOf]
      · rw [← h1, hm]; exact hz
    | some i =>
      have hneg : decide ((ixI (some i) : Int) < 0) = false := decide_eq_false (by simp only [ixI]; omega)
      rw [hneg]
      refine aw_if rfl (fun g => ?_) (fun g => ?_)
      · have hi : ¬ i < (tsS s).length := by
          have : ((tsS s).length : Int) ≤ (i : Int) := by simpa [ixI] using g
          omega
        have hm := meantF_out h hx hi
        refine aw_sr rfl ?_
        simp only [go_sem, reduceIte, Nat.reduceEqDiff, Nat.reduceAdd, Nat.reduceMul, Nat.reduceSub, Nat.reduceLeDiff, Nat.reduceLT, reduceCtorEq]
        refine aw_ret ⟨trivial, [.agg [.int .i64 0, .str [], .sl [] true .full, .sl [] true .full, .sl [] true .full]], ?_, ?_, sub_fresh hb2' (sub_tail hb1)⟩
        · simp only [go_sem, reduceIte, Nat.reduceEqDiff, Nat.reduceAdd, Nat.reduceMul, Nat.reduceSub, Nat.reduceLeDiff, Nat.reduceLT, reduceCtorEq, resL, resOf]
        · rw [← h1, hm]; exact hz
      · have hi : i < (tsS s).length := by
          have : (i : Int) < ((tsS s).length : Int) := by simpa [ixI] using g
          omega
        obtain ⟨hm, hl⟩ := meantF_in h hx hi
        have hb := h2.ts.1
        have hb' : (tsS s).length ≤ 1048576 := hb
        refine aw_skip (hK3 _ _ ?_)
        refine aw_rg rfl ?_
        simp only [go_sem, reduceIte, Nat.reduceEqDiff, Nat.reduceAdd, Nat.reduceMul, Nat.reduceSub, Nat.reduceLeDiff, Nat.reduceLT, reduceCtorEq, n21, ixI, getD_map hi, eBd_eq, cBd]
        refine ⟨⟨by omega, by omega, wid_eBd _ _⟩, ⟨⟨(outS s, (tsS s)[i]), by rw [← h1, hm], h2.out⟩, hl, ?_, fun _ _ h => h⟩⟩
        exact ⟨rfl, rfl⟩
  · have h : ¬ t.kind = 5 := by simpa using h
    have hm := meantF_no (s := s) h
    refine aw_exit ?_
    refine hK1 _ _ ?_
    refine aw_sr rfl ?_
    simp only [go_sem, reduceIte, Nat.reduceEqDiff, Nat.reduceAdd, Nat.reduceMul, Nat.reduceSub, Nat.reduceLeDiff, Nat.reduceLT, reduceCtorEq, n21]
    refine aw_ret ⟨trivial, [.agg (cBd s t)], ?_, ?_, sub_fresh hb2' (sub_tail hb1)⟩
    · simp only [go_sem, reduceIte, Nat.reduceEqDiff, Nat.reduceAdd, Nat.reduceMul, Nat.reduceSub, Nat.reduceLeDiff, Nat.reduceLT, reduceCtorEq, resL, resOf]
    · rw [← h1, hm, eBd_eq]; exact Vle.refl _
end Go.Proofs.Ytomjghlaoncpbaa
