import Derived.Test.YtomjghlaoncpbaaShapH
import Derived.Test.YtomjghlaoncpbaaShapC
set_option linter.unusedSimpArgs false
set_option linter.unusedVariables false
namespace Go.Proofs.Ytomjghlaoncpbaa
open Go.Proofs.YtomjghlaoncpbaaV
set_option maxHeartbeats 400000
set_option maxRecDepth 100000
theorem q_makes1 (m : Mak) (b : Nat) (s : List UInt8) : QuietOn Try.prog [(b, .vars [.str s])] 183 ([] ++ [.agg (eMake m)] ++ [.ptr b 0]) (.bool (decide (m.1 = s))) := by
  refine QuietOn.weak fun G hG => ?_
  have hg : hget G b = some (.vars [.str s]) := hG _ _ (hget_self _ _ _)
  refine acall_body (rs := [.tmp 3]) Try.func183 rfl rfl Try.ntmps183 (by kernel_rfl) (Nat.le_of_ble_eq_true rfl) ?_
  refine aw_sr rfl ?_
  simp only [go_sem, reduceIte, Nat.reduceEqDiff, Nat.reduceAdd, Nat.reduceMul, Nat.reduceSub, Nat.reduceLeDiff, Nat.reduceLT, reduceCtorEq, e177]
  intro b2 hb
  have hne : ¬ b2 = b := by intro e; subst e; rw [hg] at hb; cases hb
  refine aw_sr rfl ?_
  simp only [go_sem, reduceIte, Nat.reduceEqDiff, Nat.reduceAdd, Nat.reduceMul, Nat.reduceSub, Nat.reduceLeDiff, Nat.reduceLT, reduceCtorEq, hne, hg]
  exact aw_ret ⟨trivial, _, rfl, Vle.refl _, hsub_at hb⟩
/-- A maker of a data, with its types filled. -/
def makesF (p : Prgm) (t : Typ) (name : List UInt8) : Option (List Typ) :=
  match dataF p t.name with
  | none => none
  | some d => match d.2.2.1.find? (fun m => decide (m.1 = name)) with
    | none => none
    | some m => if d.2.1.1.length = t.args.length ∧ m.2.1.length ≤ 6 then some (m.2.1.map (fillF d.2.1 t.args)) else none
def tysV : Option (List Typ) → V
  | none => .tup [.sl [] true .no, .bool false]
  | some ts => .tup [.sl (ts.map eTyp) ts.isEmpty .no, .bool true]
theorem q_makes (p : Prgm) (t : Typ) (name : List UInt8) (hp : o56 p.2.2.2.1) (ht : OkTyp t) : Quiet Try.prog 173 [.agg (cPrg p), .agg (cTyp t), .str name] (tysV (makesF p t name)) := by
  have htl : t.args.length ≤ 1048576 := ht.len
  refine Quiet.weak fun G => ?_
  refine acall_body (rs := [.tmp 6, .tmp 7]) Try.func173 rfl rfl Try.ntmps173 (by kernel_rfl) (Nat.le_of_ble_eq_true rfl) ?_
  refine aw_sr rfl ?_  -- r0 @shape.go:98
  simp only [go_sem, reduceIte, Nat.reduceEqDiff, Nat.reduceAdd, Nat.reduceMul, Nat.reduceSub, Nat.reduceLeDiff, Nat.reduceLT, reduceCtorEq]
  intro b3 hb3 b4 hb4 b5 hb5
  refine aw_box3 hb3 hb4 hb5 fun B1 hs1 h3 h4 h5 _ _ _ _ _ _ => ?_
  have hsB := hs1
  refine aw_sr rfl ?_  -- r1 @shape.go:99
  simp only [go_sem, reduceIte, Nat.reduceEqDiff, Nat.reduceAdd, Nat.reduceMul, Nat.reduceSub, Nat.reduceLeDiff, Nat.reduceLT, reduceCtorEq, h3, h4, e62, cTyp]
  refine goA_q (q_data p t.name hp.2.1) ?_
  simp only [go_sem, reduceIte, Nat.reduceEqDiff, Nat.reduceAdd, Nat.reduceMul, Nat.reduceSub, Nat.reduceLeDiff, Nat.reduceLT, reduceCtorEq]
  intro b8 hb8
  generalize hd : (dataF p t.name).getD zDat = d
  refine ⟨⟨by simp [e175, scalarV], rfl⟩, ?_⟩
  refine aw_box1 hb8 fun B2 hs2 h8 => ?_
  replace h3 := hs2 _ _ h3
  replace h4 := hs2 _ _ h4
  replace h5 := hs2 _ _ h5
  replace hsB := sub_trans hsB hs2
  have hml : d.2.2.1.length ≤ bulk ∧ (∀ m ∈ d.2.2.1, o63 m.2) ∧ d.2.1.1.length ≤ bulk := by
    cases hdf : dataF p t.name with
    | none => rw [hdf] at hd; subst hd; simp [zDat]
    | some d0 =>
      rw [hdf] at hd
      subst hd
      have := hp.2.2 d0 (List.mem_of_find?_eq_some hdf)
      exact ⟨this.2.2.2.1, fun m hm => (this.2.2.2.2 m hm).2, this.2.1.2.1⟩
  have hml' : d.2.2.1.length ≤ 1048576 := hml.1
  refine aw_sr rfl ?_  -- r2 @shape.go:100
  simp only [go_sem, reduceIte, Nat.reduceEqDiff, Nat.reduceAdd, Nat.reduceMul, Nat.reduceSub, Nat.reduceLeDiff, Nat.reduceLT, reduceCtorEq, h8, e175]
  refine goA_on (q_IndexMak [(b5, .vars [.str name])] 183 [] [.ptr b5 0] (fun m => decide (m.1 = name)) d.2.2.1 d.2.2.2 .no (le_bulk hml.1) fun m _ => q_makes1 m b5 name) (sub_one h5) ?_
  simp only [go_sem, reduceIte, Nat.reduceEqDiff, Nat.reduceAdd, Nat.reduceMul, Nat.reduceSub, Nat.reduceLeDiff, Nat.reduceLT, reduceCtorEq]
  refine aw_seq fun K3 hK3 => ?_
  refine aw_srq [(0,true),(1,true),(2,true),(3,true),(4,true),(5,true),(6,true),(7,true),(8,true),(9,true),(10,true),(11,true),(12,true),(13,true),(14,true),(15,true),(16,true),(17,true),(18,true),(19,true),(20,true),(21,true),(22,true),(23,true),(24,true)] rfl rfl ?_  -- r3
  rcases find_ix (fun m : Mak => decide (m.1 = name)) d.2.2.1 with ⟨e1, e2⟩ | ⟨i, hi, e1, e2⟩
  · have hpf : makesF p t name = none := by
      unfold makesF
      cases hdf : dataF p t.name with
      | none => rfl
      | some d0 => rw [hdf] at hd; subst hd; simp only [Option.getD_some] at e1; simp only [e1]
    rw [e2]
    have hneg : decide ((ixI none : Int) < 0) = true := rfl
    have hcs : (d.2.2.1.map eMake).getD (ixI none).toNat [] = [] ∨ ∃ d0, (d.2.2.1.map eMake).getD (ixI none).toNat [] = eMake d0 := by
      cases d.2.2.1 with
      | nil => exact .inl rfl
      | cons d0 ds => exact .inr ⟨d0, rfl⟩
    rcases hcs with hcs | ⟨d0, hcs⟩
    all_goals
      simp only [go_sem, reduceIte, Nat.reduceEqDiff, Nat.reduceAdd, Nat.reduceMul, Nat.reduceSub, Nat.reduceLeDiff, Nat.reduceLT, reduceCtorEq, h4, h8, cTyp, e175, hneg, hcs, e177, not_true_eq_false, false_implies, true_and, Bool.or_true, Bool.true_or, Bool.not_true]
      refine aw_if (b := true) rfl (fun h => ?_) (fun h => by cases h)
      refine aw_sr rfl ?_  -- r4 @shape.go:102
      simp only [go_sem, reduceIte, Nat.reduceEqDiff, Nat.reduceAdd, Nat.reduceMul, Nat.reduceSub, Nat.reduceLeDiff, Nat.reduceLT, reduceCtorEq]
      refine aw_ret ⟨trivial, _, rfl, ?_, hsB⟩
      rw [hpf]
      exact Vle.tupL (.cons Vle.untag (.cons (Vle.refl _) .nil))
  obtain ⟨d0, hdf⟩ : ∃ d0, dataF p t.name = some d0 := by
    cases hdf : dataF p t.name with
    | none => rw [hdf] at hd; subst hd; simp [zDat] at hi
    | some d0 => exact ⟨d0, rfl⟩
  rw [hdf] at hd ⊢
  simp only [Option.getD_some] at hd
  subst hd
  generalize hm : d0.2.2.1[i] = m at e1
  have hmm : m ∈ d0.2.2.1 := by rw [← hm]; exact List.getElem_mem hi
  have hmo := hml.2.1 m hmm
  have hma' : m.2.1.length ≤ 1048576 := hmo.len
  have hneg : decide ((ixI (some i) : Int) < 0) = false := decide_eq_false (by simp only [ixI]; omega)
  have hpf : makesF p t name = if d0.2.1.1.length = t.args.length ∧ m.2.1.length ≤ 6 then some (m.2.1.map (fillF d0.2.1 t.args)) else none := by
    unfold makesF
    rw [hdf]
    simp only [e1]
  rw [e2]
  simp only [go_sem, reduceIte, Nat.reduceEqDiff, Nat.reduceAdd, Nat.reduceMul, Nat.reduceSub, Nat.reduceLeDiff, Nat.reduceLT, reduceCtorEq, h4, h8, cTyp, e175, hneg, ixI, getD_map hi, hm, e177]
  refine ⟨fun _ => ⟨by omega, by omega, wid_map (g := eMake) (fun _ => rfl) _⟩, ?_⟩
  refine aw_if rfl (fun h => ?_) (fun h => ?_)
  · refine aw_sr rfl ?_  -- r4 @shape.go:102
    simp only [go_sem, reduceIte, Nat.reduceEqDiff, Nat.reduceAdd, Nat.reduceMul, Nat.reduceSub, Nat.reduceLeDiff, Nat.reduceLT, reduceCtorEq]
    refine aw_ret ⟨trivial, _, rfl, ?_, hsB⟩
    rw [hpf, if_neg (by simp at h; omega)]
    exact Vle.tupL (.cons Vle.untag (.cons (Vle.refl _) .nil))
  have hcond : d0.2.1.1.length = t.args.length ∧ m.2.1.length ≤ 6 := by simp at h; omega
  rw [if_pos hcond] at hpf
  refine aw_skip (hK3 _ _ ?_)
  refine aw_sr rfl ?_  -- r5 @shape.go:104
  simp only [go_sem, reduceIte, Nat.reduceEqDiff, Nat.reduceAdd, Nat.reduceMul, Nat.reduceSub, Nat.reduceLeDiff, Nat.reduceLT, reduceCtorEq]
  refine aw_seq fun K4 hK4 => ?_
  refine aw_sr rfl ?_  -- r6 @shape.go:105
  simp only [go_sem, reduceIte, Nat.reduceEqDiff, Nat.reduceAdd, Nat.reduceMul, Nat.reduceSub, Nat.reduceLeDiff, Nat.reduceLT, reduceCtorEq, h8, e175, getD_map hi, hm, e177]
  refine ⟨⟨by omega, by omega, wid_map (g := eMake) (fun _ => rfl) _⟩, ?_⟩
  refine aw_range m.2.1.length (S := Bool × Tag × Heap) (fun j st => [(4, .ptr b4 0), (8, .ptr b8 0), (11, .sl (((m.2.1.take j).map (fillF d0.2.1 t.args)).map eTyp) st.1 st.2.1), (55, .sl (m.2.1.map eTyp) m.2.2 .no)]) (fun _ st => st.2.2)
    (fun j st => Rm G st.2.2 3 st.2.1 ∧ Sub G st.2.2 ∧ hget st.2.2 b4 = some (.vars (cTyp t)) ∧ hget st.2.2 b8 = some (.vars (eData d0)) ∧ st.1 = (m.2.1.take j).isEmpty)
    (true, .full, B2) (by omega) ?_ (fun _ _ h => h) ⟨Rm.start _ _ _, hsB, h4, h8, by simp⟩ rfl (fun _ _ => rfl) ?_ ?_ (by decide)
  · simp only [go_sem, reduceIte, Nat.reduceEqDiff, Nat.reduceAdd, Nat.reduceMul, Nat.reduceSub, Nat.reduceLeDiff, Nat.reduceLT, reduceCtorEq, Int.natCast_zero, List.take_zero, List.map_nil]
  · intro j ⟨nl2, t2, H⟩ hj ⟨hr, hs, h4, h8, hnl⟩
    simp only at hr hs h4 h8 hnl ⊢
    have ham : m.2.1[j] ∈ m.2.1 := List.getElem_mem hj
    have happ : ((m.2.1.take j).map (fillF d0.2.1 t.args)).map eTyp ++ [eTyp (fillF d0.2.1 t.args m.2.1[j])] = ((m.2.1.take (j + 1)).map (fillF d0.2.1 t.args)).map eTyp := by
      rw [List.take_succ_eq_append_getElem hj]; simp only [List.map_append, List.map_cons, List.map_nil]
    rw [eTyp_eq] at happ
    refine aw_sr rfl ?_  -- r8 @shape.go:105
    simp only [go_sem, reduceIte, Nat.reduceEqDiff, Nat.reduceAdd, Nat.reduceMul, Nat.reduceSub, Nat.reduceLeDiff, Nat.reduceLT, reduceCtorEq, getD_map hj, eTyp_eq]
    refine ⟨⟨by omega, by omega, wid_eTyp _⟩, ?_⟩
    intro b13 hb13
    refine aw_box1 hb13 fun B3 hs3 h13 => ?_
    replace h4 := hs3 _ _ h4
    replace h8 := hs3 _ _ h8
    refine aw_rg rfl ?_  -- r9 @shape.go:106
    simp only [go_sem, reduceIte, Nat.reduceEqDiff, Nat.reduceAdd, Nat.reduceMul, Nat.reduceSub, Nat.reduceLeDiff, Nat.reduceLT, reduceCtorEq, h4, h8, h13, cTyp, e175]
    refine goA_q (q_filled d0.2.1 t.args t.nl hml.2.2 ht.len _ m.2.1[j] (Nat.le_refl _) (hmo.mem ham).1) ?_
    simp only [go_sem, reduceIte, Nat.reduceEqDiff, Nat.reduceAdd, Nat.reduceMul, Nat.reduceSub, Nat.reduceLeDiff, Nat.reduceLT, reduceCtorEq]
    refine goP_rm (hr.sub hs3) (sub_trans hs hs3) ?_ fun t' H' hr' hs' hg => ?_
    · exact ⟨rfl, rfl, by decide, wid_eTyp _, wid_one rfl, sca_one rfl, by simp; omega, by simp; omega⟩
    simp only [go_sem, reduceIte, Nat.reduceEqDiff, Nat.reduceAdd, Nat.reduceMul, Nat.reduceSub, Nat.reduceLeDiff, Nat.reduceLT, reduceCtorEq, Bool.and_false, happ]
    refine ⟨(false, t', H'), ⟨hr', hs', hg.vars h4, hg.vars h8, (isEmpty_take_add hj).symm⟩, ?_, sub_rfl⟩
    simp only [go_sem, reduceIte, Nat.reduceEqDiff, Nat.reduceAdd, Nat.reduceMul, Nat.reduceSub, Nat.reduceLeDiff, Nat.reduceLT, reduceCtorEq]
  intro ⟨nl2, t2, H⟩ ⟨hr, hs, h4, h8, hnl⟩
  simp only at hr hs h4 h8 hnl ⊢
  rw [List.take_length] at hnl
  refine hK4 _ _ ?_
  refine aw_sr rfl ?_  -- r11 @shape.go:108
  simp only [go_sem, reduceIte, Nat.reduceEqDiff, Nat.reduceAdd, Nat.reduceMul, Nat.reduceSub, Nat.reduceLeDiff, Nat.reduceLT, reduceCtorEq, List.take_length]
  refine aw_ret ⟨trivial, _, rfl, ?_, hs⟩
  rw [hpf, hnl]
  refine Vle.tupL (.cons ?_ (.cons (Vle.refl _) .nil))
  rw [show m.2.1.isEmpty = (m.2.1.map (fillF d0.2.1 t.args)).isEmpty by rw [List.isEmpty_map]]
  exact Vle.untag
theorem makesF_ok {p : Prgm} {t : Typ} {name : List UInt8} {ts : List Typ} (hp : o56 p.2.2.2.1) (ht : OkTyp t) (h : makesF p t name = some ts) : ts.length ≤ 6 ∧ ∀ a ∈ ts, OkTyp a := by
  unfold makesF at h
  cases hd : dataF p t.name with
  | none => rw [hd] at h; cases h
  | some d =>
    rw [hd] at h
    simp only at h
    split at h
    · cases h
    · rename_i m hm
      split at h
      · rename_i hc
        cases h
        have hdo := hp.2.2 d (List.mem_of_find?_eq_some hd)
        have hmo := (hdo.2.2.2.2 m (List.mem_of_find?_eq_some hm)).2
        refine ⟨by rw [List.length_map]; exact hc.2, fun a ha => ?_⟩
        obtain ⟨b, hb, rfl⟩ := List.mem_map.1 ha
        exact fillF_ok (fun a ha => ht.arg ha) (hmo.mem hb).1
      · cases h
end Go.Proofs.Ytomjghlaoncpbaa
