import Derived.Test.YtomjghlaoncpbaaShapI
set_option linter.unusedSimpArgs false
set_option linter.unusedVariables false
namespace Go.Proofs.Ytomjghlaoncpbaa
open Go.Proofs.YtomjghlaoncpbaaV
set_option maxHeartbeats 400000
set_option maxRecDepth 100000
def zVal : Val := .mk 0 0 [] [] true
/-- First values of types, if each has one. -/
def allF (F : Typ → Val × Bool) (ts : List Typ) : Option (List Val) := if ts.all (fun a => (F a).2) = true then some (ts.map fun a => (F a).1) else none
def gsF (p : Prgm) (d : Int) (F : Typ → Val × Bool) (t : Typ) (name : List UInt8) : Option (List Val) :=
  match makesF p t name with
  | none => none
  | some ts => if d < 0 then none else allF F ts
def valsV : Option (List Val) → V
  | none => .tup [.sl [] true .no, .bool false]
  | some l => .tup [.sl (l.map eVal) l.isEmpty .no, .bool true]
def leafK (k : Int) : Int := if k = 1 then 2 else if k = 2 then 3 else if k = 3 then 4 else 1
/-- The first value of a type, by those of its parts. -/
def firstS (p : Prgm) (d : Int) (F : Typ → Val × Bool) (t : Typ) : Val × Bool :=
  if t.kind = 1 ∨ t.kind = 2 ∨ t.kind = 3 ∨ t.kind = 4 then (.mk (leafK t.kind) 0 [] [] true, true)
  else if t.kind = 9 then (match t.args with | [a] => if d = 0 then (zVal, false) else (.mk 8 0 [] [(F a).1] false, (F a).2) | _ => (zVal, false))
  else if t.kind = 6 then (match ((dataF p t.name).getD zDat).2.2.1.find? (fun m => (gsF p (d - 1) F t m.1).isSome) with
    | none => (zVal, false)
    | some m => (.mk 5 0 m.1 ((gsF p (d - 1) F t m.1).getD []) ((gsF p (d - 1) F t m.1).getD []).isEmpty, true))
  else (zVal, false)
def firstV (x : Val × Bool) : V := .tup [.agg (cV x.1), .bool x.2]
theorem allF_not {F : Typ → Val × Bool} {ts : List Typ} {i : Nat} (hi : i < ts.length) (h : (F ts[i]).2 = false) : allF F ts = none := by
  unfold allF
  rw [if_neg]
  intro e
  rw [List.all_eq_true] at e
  rw [e _ (List.getElem_mem hi)] at h
  cases h
theorem q_firsts (p : Prgm) (d : Int) (F : Typ → Val × Bool) (t : Typ) (name : List UInt8) (hp : o56 p.2.2.2.1) (ht : OkTyp t)
    (hF : 0 ≤ d → ∀ a, OkTyp a → Quiet Try.prog 110 [.agg (cPrg p), .agg (cTyp a), .int .i64 d] (firstV (F a))) :
    Quiet Try.prog 151 [.agg (cPrg p), .agg (cTyp t), .str name, .int .i64 d] (valsV (gsF p d F t name)) := by
  have hok := fun ts => makesF_ok (p := p) (t := t) (name := name) (ts := ts) hp ht
  refine Quiet.weak fun G => ?_
  refine acall_body (rs := [.tmp 8, .tmp 9]) Try.func151 rfl rfl Try.ntmps151 (by kernel_rfl) (Nat.le_of_ble_eq_true rfl) ?_
  refine aw_sr rfl ?_  -- r0 @shape.go:196
  simp only [go_sem, reduceIte, Nat.reduceEqDiff, Nat.reduceAdd, Nat.reduceMul, Nat.reduceSub, Nat.reduceLeDiff, Nat.reduceLT, reduceCtorEq]
  intro b4 hb4 b5 hb5
  refine aw_box2 hb4 hb5 fun B1 hs1 h4 h5 _ _ => ?_
  have hsB := hs1
  refine aw_sr rfl ?_  -- r1 @shape.go:197
  simp only [go_sem, reduceIte, Nat.reduceEqDiff, Nat.reduceAdd, Nat.reduceMul, Nat.reduceSub, Nat.reduceLeDiff, Nat.reduceLT, reduceCtorEq, h4, h5, e62, cTyp]
  refine goA_q (q_makes p t name hp ht) ?_
  cases hmk : makesF p t name with
  | none =>
    simp only [go_sem, reduceIte, Nat.reduceEqDiff, Nat.reduceAdd, Nat.reduceMul, Nat.reduceSub, Nat.reduceLeDiff, Nat.reduceLT, reduceCtorEq, tysV]
    refine aw_seq fun K1 hK1 => ?_
    refine aw_sr rfl ?_  -- r2 @shape.go:198
    simp only [go_sem, reduceIte, Nat.reduceEqDiff, Nat.reduceAdd, Nat.reduceMul, Nat.reduceSub, Nat.reduceLeDiff, Nat.reduceLT, reduceCtorEq]
    refine aw_if (b := true) rfl (fun h => ?_) (fun h => by cases h)
    refine aw_sr rfl ?_  -- r3 @shape.go:199
    simp only [go_sem, reduceIte, Nat.reduceEqDiff, Nat.reduceAdd, Nat.reduceMul, Nat.reduceSub, Nat.reduceLeDiff, Nat.reduceLT, reduceCtorEq]
    refine aw_ret ⟨trivial, _, rfl, ?_, hsB⟩
    unfold gsF; rw [hmk]
    exact Vle.tupL (.cons Vle.untag (.cons (Vle.refl _) .nil))
  | some ts =>
    obtain ⟨ht6, hta⟩ := hok ts hmk
    have hgs : gsF p d F t name = if d < 0 then none else allF F ts := by unfold gsF; rw [hmk]
    rw [hgs]
    clear hgs hmk hok
    simp only [go_sem, reduceIte, Nat.reduceEqDiff, Nat.reduceAdd, Nat.reduceMul, Nat.reduceSub, Nat.reduceLeDiff, Nat.reduceLT, reduceCtorEq, tysV]
    refine aw_seq fun K1 hK1 => ?_
    refine aw_sr rfl ?_  -- r2 @shape.go:198
    simp only [go_sem, reduceIte, Nat.reduceEqDiff, Nat.reduceAdd, Nat.reduceMul, Nat.reduceSub, Nat.reduceLeDiff, Nat.reduceLT, reduceCtorEq]
    refine aw_if rfl (fun h => ?_) (fun h => ?_)
    · have hd : d < 0 := by simpa using h
      refine aw_sr rfl ?_  -- r3 @shape.go:199
      simp only [go_sem, reduceIte, Nat.reduceEqDiff, Nat.reduceAdd, Nat.reduceMul, Nat.reduceSub, Nat.reduceLeDiff, Nat.reduceLT, reduceCtorEq]
      refine aw_ret ⟨trivial, _, rfl, ?_, hsB⟩
      rw [if_pos hd]
      exact Vle.tupL (.cons Vle.untag (.cons (Vle.refl _) .nil))
    have hd : 0 ≤ d := by simpa using h
    have hd' : ¬ d < 0 := by omega
    refine aw_skip (hK1 _ _ ?_)
    refine aw_sr rfl ?_  -- r4 @shape.go:201
    simp only [go_sem, reduceIte, Nat.reduceEqDiff, Nat.reduceAdd, Nat.reduceMul, Nat.reduceSub, Nat.reduceLeDiff, Nat.reduceLT, reduceCtorEq]
    refine aw_seq fun K2 hK2 => ?_
    refine aw_sr rfl ?_  -- r5 @shape.go:202
    simp only [go_sem, reduceIte, Nat.reduceEqDiff, Nat.reduceAdd, Nat.reduceMul, Nat.reduceSub, Nat.reduceLeDiff, Nat.reduceLT, reduceCtorEq]
    refine aw_range ts.length (S := Bool × Tag × Heap) (fun i st => [(3, .int .i64 d), (4, .ptr b4 0), (12, .sl (((ts.take i).map fun a => (F a).1).map eVal) st.1 st.2.1), (30, .sl (ts.map eTyp) ts.isEmpty .no)]) (fun _ st => st.2.2)
      (fun i st => Rm G st.2.2 4 st.2.1 ∧ Sub G st.2.2 ∧ hget st.2.2 b4 = some (.vars (cPrg p)) ∧ st.1 = (ts.take i).isEmpty ∧ ∀ k (hk : k < ts.length), k < i → (F ts[k]).2 = true)
      (true, .full, B1) (by omega) ?_ (fun _ _ h => h) ⟨Rm.start _ _ _, hsB, h4, by simp, fun k _ hk => absurd hk (by omega)⟩ rfl (fun _ _ => rfl) ?_ ?_ (by decide)
    · simp only [go_sem, reduceIte, Nat.reduceEqDiff, Nat.reduceAdd, Nat.reduceMul, Nat.reduceSub, Nat.reduceLeDiff, Nat.reduceLT, reduceCtorEq, Int.natCast_zero, List.take_zero, List.map_nil]
    · intro i ⟨nl2, t2, H⟩ hi ⟨hr, hs, h4, hnl, he⟩
      simp only at hr hs h4 hnl he ⊢
      have ham : ts[i] ∈ ts := List.getElem_mem hi
      have happ : ((ts.take i).map fun a => (F a).1).map eVal ++ [eVal (F ts[i]).1] = ((ts.take (i + 1)).map fun a => (F a).1).map eVal := by
        rw [List.take_succ_eq_append_getElem hi]; simp only [List.map_append, List.map_cons, List.map_nil]
      rw [eC] at happ
      refine aw_sr rfl ?_  -- r7 @shape.go:202
      simp only [go_sem, reduceIte, Nat.reduceEqDiff, Nat.reduceAdd, Nat.reduceMul, Nat.reduceSub, Nat.reduceLeDiff, Nat.reduceLT, reduceCtorEq, getD_map hi, eTyp_eq]
      refine ⟨⟨by omega, by omega, wid_eTyp _⟩, ?_⟩
      intro b14 hb14
      refine aw_box1 hb14 fun B2 hs2 h14 => ?_
      replace h4 := hs2 _ _ h4
      refine aw_sr rfl ?_  -- r8 @shape.go:203
      simp only [go_sem, reduceIte, Nat.reduceEqDiff, Nat.reduceAdd, Nat.reduceMul, Nat.reduceSub, Nat.reduceLeDiff, Nat.reduceLT, reduceCtorEq, h4, h14, e62]
      refine goA_q (hF hd ts[i] (hta _ ham)) ?_
      simp only [go_sem, reduceIte, Nat.reduceEqDiff, Nat.reduceAdd, Nat.reduceMul, Nat.reduceSub, Nat.reduceLeDiff, Nat.reduceLT, reduceCtorEq, firstV, cV]
      intro b15 hb15
      refine aw_box1 hb15 fun B3 hs3 h15 => ?_
      replace h4 := hs3 _ _ h4
      have hs23 := sub_trans hs2 hs3
      refine aw_seq fun K3 hK3 => ?_
      refine aw_sr rfl ?_  -- r9 @shape.go:204
      simp only [go_sem, reduceIte, Nat.reduceEqDiff, Nat.reduceAdd, Nat.reduceMul, Nat.reduceSub, Nat.reduceLeDiff, Nat.reduceLT, reduceCtorEq]
      refine aw_if rfl (fun h => ?_) (fun h => ?_)
      · have h : (F ts[i]).2 = false := by simpa using h
        refine aw_sr rfl ?_  -- r10 @shape.go:205
        simp only [go_sem, reduceIte, Nat.reduceEqDiff, Nat.reduceAdd, Nat.reduceMul, Nat.reduceSub, Nat.reduceLeDiff, Nat.reduceLT, reduceCtorEq]
        refine aw_ret ⟨trivial, _, rfl, ?_, sub_trans hs hs23⟩
        rw [if_neg hd', allF_not hi h]
        exact Vle.tupL (.cons Vle.untag (.cons (Vle.refl _) .nil))
      have h : (F ts[i]).2 = true := by simpa using h
      refine aw_skip (hK3 _ _ ?_)
      refine aw_rg rfl ?_  -- r11 @shape.go:207
      simp only [go_sem, reduceIte, Nat.reduceEqDiff, Nat.reduceAdd, Nat.reduceMul, Nat.reduceSub, Nat.reduceLeDiff, Nat.reduceLT, reduceCtorEq, h15]
      refine goP_rm (hr.sub hs23) (sub_trans hs hs23) ?_ fun t' H' hr' hs' hg => ?_
      · exact ⟨rfl, rfl, by decide, wid_Val _, wid_one rfl, sca_one rfl, by simp; omega, by simp; omega⟩
      simp only [go_sem, reduceIte, Nat.reduceEqDiff, Nat.reduceAdd, Nat.reduceMul, Nat.reduceSub, Nat.reduceLeDiff, Nat.reduceLT, reduceCtorEq, Bool.and_false, happ]
      refine ⟨(false, t', H'), ⟨hr', hs', hg.vars h4, (isEmpty_take_add hi).symm, fun k hk hlt => ?_⟩, ?_, sub_rfl⟩
      · by_cases e : k = i
        · subst e; exact h
        · exact he k hk (by omega)
      simp only [go_sem, reduceIte, Nat.reduceEqDiff, Nat.reduceAdd, Nat.reduceMul, Nat.reduceSub, Nat.reduceLeDiff, Nat.reduceLT, reduceCtorEq]
    intro ⟨nl2, t2, H⟩ ⟨hr, hs, h4, hnl, he⟩
    simp only at hr hs h4 hnl he ⊢
    rw [List.take_length] at hnl
    refine hK2 _ _ ?_
    refine aw_sr rfl ?_  -- r13 @shape.go:209
    simp only [go_sem, reduceIte, Nat.reduceEqDiff, Nat.reduceAdd, Nat.reduceMul, Nat.reduceSub, Nat.reduceLeDiff, Nat.reduceLT, reduceCtorEq, List.take_length]
    refine aw_ret ⟨trivial, _, rfl, ?_, hs⟩
    have : allF F ts = some (ts.map fun a => (F a).1) := by
      unfold allF
      rw [if_pos]
      rw [List.all_eq_true]
      intro a ha
      obtain ⟨k, hk, rfl⟩ := List.getElem_of_mem ha
      exact he k hk hk
    rw [if_neg hd', this, hnl]
    refine Vle.tupL (.cons ?_ (.cons (Vle.refl _) .nil))
    rw [show ts.isEmpty = (ts.map fun a => (F a).1).isEmpty by rw [List.isEmpty_map]]
    exact Vle.untag
theorem gsF_neg (p : Prgm) {d : Int} (F : Typ → Val × Bool) (t : Typ) (name : List UInt8) (h : d < 0) : gsF p d F t name = none := by
  unfold gsF
  split
  · rfl
  · rw [if_pos h]
theorem q_firstS (p : Prgm) (d : Int) (F : Typ → Val × Bool) (t : Typ) (hp : o56 p.2.2.2.1) (ht : OkTyp t) (hd0 : 0 ≤ d) (hd1 : d ≤ 1000)
    (hF : 0 ≤ d - 1 → ∀ a, OkTyp a → Quiet Try.prog 110 [.agg (cPrg p), .agg (cTyp a), .int .i64 (d - 1)] (firstV (F a))) :
    Quiet Try.prog 110 [.agg (cPrg p), .agg (cTyp t), .int .i64 d] (firstV (firstS p d F t)) := by
  have hw1 : IntKind.i64.wrap (d - 1) = d - 1 := wrap64 (by omega) (by omega)
  refine Quiet.weak fun G => ?_
  refine acall_body (rs := [.cell 6 67, .tmp 7]) Try.func110 rfl rfl Try.ntmps110 (by kernel_rfl) (Nat.le_of_ble_eq_true rfl) ?_
  refine aw_sr rfl ?_  -- r0 @shape.go:174
  simp only [go_sem, reduceIte, Nat.reduceEqDiff, Nat.reduceAdd, Nat.reduceMul, Nat.reduceSub, Nat.reduceLeDiff, Nat.reduceLT, reduceCtorEq]
  intro b3 hb3 b4 hb4 b6 hb6
  have hG6 := (fresh_cons (fresh_cons hb6).2).2
  refine aw_box3 hb3 hb4 hb6 fun B1 hs1 h3 h4 h6 _ _ _ _ _ _ => ?_
  have hsB := hs1
  refine aw_mid (fun f' G' => FSub [(6, .ptr b6 0)] f' ∧ Sub G G' ∧ hget G' b6 = some (.vars [.int .i64 0, .int .i64 0, .str [], .sl [] true .full]) ∧ firstS p d F t = (zVal, false)) ?_ ?_
  case refine_2 =>
    intro f' G' ⟨hf, hg, h6, he⟩
    refine AW.of_fsub hf ?_
    refine aw_sr rfl ?_  -- r21 @shape.go:192
    simp only [go_sem, reduceIte, Nat.reduceEqDiff, Nat.reduceAdd, Nat.reduceMul, Nat.reduceSub, Nat.reduceLeDiff, Nat.reduceLT, reduceCtorEq, h6]
    refine aw_ret ⟨trivial, [.agg [.int .i64 0, .int .i64 0, .str [], .sl [] true .full], .bool false], ?_, ?_, sub_hset_fresh hG6 hg⟩
    · simp only [go_sem, reduceIte, Nat.reduceEqDiff, Nat.reduceAdd, Nat.reduceMul, Nat.reduceSub, Nat.reduceLeDiff, Nat.reduceLT, reduceCtorEq, resL, resOf, hget_hset_self h6]
    rw [he]
    exact Vle.tupL (.cons (Vle.aggL (.cons (Vle.refl _) (.cons (Vle.refl _) (.cons (Vle.refl _) (.cons Vle.untag .nil))))) (.cons (Vle.refl _) .nil))
  refine aw_sr rfl ?_  -- r1 @shape.go:175
  simp only [go_sem, reduceIte, Nat.reduceEqDiff, Nat.reduceAdd, Nat.reduceMul, Nat.reduceSub, Nat.reduceLeDiff, Nat.reduceLT, reduceCtorEq, h4, cTyp]
  refine aw_block ?_  -- 0
  refine aw_mid (fun f' G' => ∃ c, (c = true ↔ (t.kind = 1 ∨ t.kind = 2 ∨ t.kind = 3 ∨ t.kind = 4)) ∧ FSub [(18, .bool c), (2, .int .i64 d), (3, .ptr b3 0), (4, .ptr b4 0), (6, .ptr b6 0), (17, .int .i64 t.kind)] f' ∧ G' = B1) ?_ ?_
  · -- 4 ways
    refine aw_sr rfl ?_
    simp only [go_sem, reduceIte, Nat.reduceEqDiff, Nat.reduceAdd, Nat.reduceMul, Nat.reduceSub, Nat.reduceLeDiff, Nat.reduceLT, reduceCtorEq]
    refine aw_if rfl (fun h => ?_) (fun h => ?_)
    · exact aw_skip ⟨decide (t.kind = 1), by have : t.kind = 1 := by simpa using h
                                             simp [this], ⟨rfl, rfl, rfl, rfl, rfl, rfl⟩, rfl⟩
    have k1 : ¬ t.kind = 1 := by simpa using h
    refine aw_sr rfl ?_
    simp only [go_sem, reduceIte, Nat.reduceEqDiff, Nat.reduceAdd, Nat.reduceMul, Nat.reduceSub, Nat.reduceLeDiff, Nat.reduceLT, reduceCtorEq]
    refine aw_if rfl (fun h => ?_) (fun h => ?_)
    · exact aw_skip ⟨decide (t.kind = 2), by have : t.kind = 2 := by simpa using h
                                             simp [this], ⟨rfl, rfl, rfl, rfl, rfl, rfl⟩, rfl⟩
    have k2 : ¬ t.kind = 2 := by simpa using h
    refine aw_sr rfl ?_
    simp only [go_sem, reduceIte, Nat.reduceEqDiff, Nat.reduceAdd, Nat.reduceMul, Nat.reduceSub, Nat.reduceLeDiff, Nat.reduceLT, reduceCtorEq]
    refine aw_if rfl (fun h => ?_) (fun h => ?_)
    · exact aw_skip ⟨decide (t.kind = 3), by have : t.kind = 3 := by simpa using h
                                             simp [this], ⟨rfl, rfl, rfl, rfl, rfl, rfl⟩, rfl⟩
    have k3 : ¬ t.kind = 3 := by simpa using h
    refine aw_rg rfl ?_
    simp only [go_sem, reduceIte, Nat.reduceEqDiff, Nat.reduceAdd, Nat.reduceMul, Nat.reduceSub, Nat.reduceLeDiff, Nat.reduceLT, reduceCtorEq]
    exact ⟨decide (t.kind = 4), by simp [k1, k2, k3], ⟨rfl, rfl, rfl, rfl, rfl, rfl⟩, rfl⟩
  intro f' G' ⟨c, hc, hf, hg⟩
  rw [hg]
  refine AW.of_fsub hf ?_
  refine aw_if rfl (fun h => ?_) (fun h => ?_)
  · have hks := hc.1 h
    have hE : firstS p d F t = (.mk (leafK t.kind) 0 [] [] true, true) := by unfold firstS; rw [if_pos hks]
    rw [hE]
    have f0 : mfind (.int .i64 1) [] 0 = some none := rfl
    have f1 : mfind (.int .i64 2) [(.int .i64 1, .int .i64 2)] 0 = some none := rfl
    have f2 : mfind (.int .i64 3) [(.int .i64 1, .int .i64 2), (.int .i64 2, .int .i64 3)] 0 = some none := rfl
    have f3 : mfind (.int .i64 4) [(.int .i64 1, .int .i64 2), (.int .i64 2, .int .i64 3), (.int .i64 3, .int .i64 4)] 0 = some none := rfl
    have hx1 : ∃ j, mfind (.int .i64 t.kind) [(.int .i64 1, .int .i64 2), (.int .i64 2, .int .i64 3), (.int .i64 3, .int .i64 4), (.int .i64 4, .int .i64 1)] 0 = some (some (j, .int .i64 (leafK t.kind))) := by
      rcases hks with e | e | e | e <;> rw [e] <;> exact ⟨_, rfl⟩
    obtain ⟨j, hx1⟩ := hx1
    have hkk : (IntKind.i64 == IntKind.i64) = true := rfl
    refine aw_sr rfl ?_
    simp only [go_sem, reduceIte, Nat.reduceEqDiff, Nat.reduceAdd, Nat.reduceMul, Nat.reduceSub, Nat.reduceLeDiff, Nat.reduceLT, reduceCtorEq, f0, f1, f2, f3, hx1, mput, h4, h6, cTyp, hkk]
    intro bm hbm
    have n4 : ¬ bm = b4 := by intro e; subst e; rw [h4] at hbm; cases hbm
    have n6 : ¬ bm = b6 := by intro e; subst e; rw [h6] at hbm; cases hbm
    simp only [go_sem, reduceIte, Nat.reduceEqDiff, Nat.reduceAdd, Nat.reduceMul, Nat.reduceSub, Nat.reduceLeDiff, Nat.reduceLT, reduceCtorEq, f0, f1, f2, f3, hx1, mput, h4, h6, cTyp, hkk, n4, n6]
    refine aw_ret ⟨trivial, [.agg [.int .i64 (leafK t.kind), .int .i64 0, .str [], .sl [] true .full], .bool true], ?_, ?_, sub_fresh (sub_none hsB hbm) (sub_hset_fresh hG6 hsB)⟩
    · simp only [go_sem, reduceIte, Nat.reduceEqDiff, Nat.reduceAdd, Nat.reduceMul, Nat.reduceSub, Nat.reduceLeDiff, Nat.reduceLT, reduceCtorEq, resL, resOf, hget_cons_ne n6, hget_hset_self h6]
    exact Vle.tupL (.cons (Vle.aggL (.cons (Vle.refl _) (.cons (Vle.refl _) (.cons (Vle.refl _) (.cons Vle.untag .nil))))) (.cons (Vle.refl _) .nil))
  have hnk : ¬ (t.kind = 1 ∨ t.kind = 2 ∨ t.kind = 3 ∨ t.kind = 4) := fun q => by rw [hc.2 q] at h; cases h
  refine aw_sr rfl ?_  -- r7 @shape.go:178
  simp only [go_sem, reduceIte, Nat.reduceEqDiff, Nat.reduceAdd, Nat.reduceMul, Nat.reduceSub, Nat.reduceLeDiff, Nat.reduceLT, reduceCtorEq]
  refine aw_if rfl (fun h => ?_) (fun h => ?_)
  · have k9 : t.kind = 9 := by simpa using h
    refine aw_seq fun K1 hK1 => ?_
    refine aw_sr rfl ?_  -- r8 @shape.go:179
    simp only [go_sem, reduceIte, Nat.reduceEqDiff, Nat.reduceAdd, Nat.reduceMul, Nat.reduceSub, Nat.reduceLeDiff, Nat.reduceLT, reduceCtorEq, h4, cTyp]
    refine aw_if rfl (fun h => ?_) (fun h => ?_)
    · have hE : firstS p d F t = (zVal, false) := by
        unfold firstS
        rw [if_neg hnk, if_pos k9]
        split
        · rename_i a ha
          rw [ha] at h
          rw [if_pos (by simpa using h)]
        · rfl
      refine aw_sr rfl ?_  -- r9 @shape.go:180
      simp only [go_sem, reduceIte, Nat.reduceEqDiff, Nat.reduceAdd, Nat.reduceMul, Nat.reduceSub, Nat.reduceLeDiff, Nat.reduceLT, reduceCtorEq, h6]
      refine aw_ret ⟨trivial, [.agg [.int .i64 0, .int .i64 0, .str [], .sl [] true .full], .bool false], ?_, ?_, sub_hset_fresh hG6 hsB⟩
      · simp only [go_sem, reduceIte, Nat.reduceEqDiff, Nat.reduceAdd, Nat.reduceMul, Nat.reduceSub, Nat.reduceLeDiff, Nat.reduceLT, reduceCtorEq, resL, resOf, hget_hset_self h6]
      rw [hE]
      exact Vle.tupL (.cons (Vle.aggL (.cons (Vle.refl _) (.cons (Vle.refl _) (.cons (Vle.refl _) (.cons Vle.untag .nil))))) (.cons (Vle.refl _) .nil))
    have hcd : t.args.length = 1 ∧ d ≠ 0 := by
      simp at h; omega
    obtain ⟨a, ha⟩ : ∃ a, t.args = [a] := by
      match hh : t.args with
      | [a] => exact ⟨a, rfl⟩
      | [] => rw [hh] at hcd; simp at hcd
      | _ :: _ :: _ => rw [hh] at hcd; simp at hcd
    have hE : firstS p d F t = (.mk 8 0 [] [(F a).1] false, (F a).2) := by
      unfold firstS
      rw [if_neg hnk, if_pos k9, ha]
      exact if_neg hcd.2
    refine aw_skip (hK1 _ _ ?_)
    refine aw_srd [(0,true),(1,true),(2,true),(3,true),(4,true),(5,true),(6,true),(7,true),(8,true),(9,true),(10,true),(11,false),(12,false),(13,true)] mixed rfl (by kernel_rfl) ?_  -- r10 @shape.go:182
    have h0 : (t.args.map eTyp).getD 0 [] = cTyp a := by rw [ha]; exact eTyp_eq a
    simp only [go_sem, reduceIte, Nat.reduceEqDiff, Nat.reduceAdd, Nat.reduceMul, Nat.reduceSub, Nat.reduceLeDiff, Nat.reduceLT, reduceCtorEq, h3, h4, cTyp, h0, hw1, e62, Int.toNat_zero]
    refine ⟨⟨by omega, by omega, wid_eTyp _⟩, ?_⟩
    refine goQ_by (hF (by omega) a (ht.arg (by rw [ha]; simp))) ?_
    simp only [go_sem, reduceIte, Nat.reduceEqDiff, Nat.reduceAdd, Nat.reduceMul, Nat.reduceSub, Nat.reduceLeDiff, Nat.reduceLT, reduceCtorEq, firstV, cV]
    intro b8 hb8
    have n86 : ¬ b6 = b8 := by intro e; subst e; rw [h6] at hb8; cases hb8
    refine aw_box1 hb8 fun B2 hs2 h8 => ?_
    replace h6 := hs2 _ _ h6
    replace hsB := sub_trans hsB hs2
    refine aw_sr rfl ?_  -- r11 @shape.go:183
    simp only [go_sem, reduceIte, Nat.reduceEqDiff, Nat.reduceAdd, Nat.reduceMul, Nat.reduceSub, Nat.reduceLeDiff, Nat.reduceLT, reduceCtorEq, h6, h8]
    refine aw_ret ⟨trivial, [.agg [.int .i64 8, .int .i64 0, .str [], .sl [eVal (F a).1] false .full], .bool (F a).2], ?_, ?_, sub_hset_fresh hG6 hsB⟩
    · simp only [go_sem, reduceIte, Nat.reduceEqDiff, Nat.reduceAdd, Nat.reduceMul, Nat.reduceSub, Nat.reduceLeDiff, Nat.reduceLT, reduceCtorEq, resL, resOf, hget_hset_self h6, eC, cV]
    rw [hE]
    exact Vle.tupL (.cons (Vle.aggL (.cons (Vle.refl _) (.cons (Vle.refl _) (.cons (Vle.refl _) (.cons Vle.untag .nil))))) (.cons (Vle.refl _) .nil))
  have k9 : ¬ t.kind = 9 := by simpa using h
  refine aw_sr rfl ?_  -- r12 @shape.go:184
  simp only [go_sem, reduceIte, Nat.reduceEqDiff, Nat.reduceAdd, Nat.reduceMul, Nat.reduceSub, Nat.reduceLeDiff, Nat.reduceLT, reduceCtorEq]
  refine aw_if rfl (fun h => ?_) (fun h => ?_)
  case refine_2 =>
    have k6 : ¬ t.kind = 6 := by simpa using h
    exact aw_skip ⟨rfl, hsB, h6, by unfold firstS; rw [if_neg hnk, if_neg k9, if_neg k6]⟩
  have k6 : t.kind = 6 := by simpa using h
  refine aw_sr rfl ?_  -- r13 @shape.go:185
  simp only [go_sem, reduceIte, Nat.reduceEqDiff, Nat.reduceAdd, Nat.reduceMul, Nat.reduceSub, Nat.reduceLeDiff, Nat.reduceLT, reduceCtorEq, h3, h4, cTyp, e62]
  refine goA_q (q_data p t.name hp.2.1) ?_
  simp only [go_sem, reduceIte, Nat.reduceEqDiff, Nat.reduceAdd, Nat.reduceMul, Nat.reduceSub, Nat.reduceLeDiff, Nat.reduceLT, reduceCtorEq]
  intro b10 hb10
  have hEd : firstS p d F t = (match ((dataF p t.name).getD zDat).2.2.1.find? (fun m => (gsF p (d - 1) F t m.1).isSome) with
    | none => (zVal, false)
    | some m => (.mk 5 0 m.1 ((gsF p (d - 1) F t m.1).getD []) ((gsF p (d - 1) F t m.1).getD []).isEmpty, true)) := by
    unfold firstS; rw [if_neg hnk, if_neg k9, if_pos k6]
  generalize hd : (dataF p t.name).getD zDat = dd at hEd
  refine ⟨⟨by simp [e175, scalarV], rfl⟩, ?_⟩
  have hml : dd.2.2.1.length ≤ bulk := by
    cases hdf : dataF p t.name with
    | none => rw [hdf] at hd; subst hd; simp [zDat]
    | some d0 =>
      rw [hdf] at hd
      subst hd
      exact (hp.2.2 d0 (List.mem_of_find?_eq_some hdf)).2.2.2.1
  have hml' : dd.2.2.1.length ≤ 1048576 := hml
  refine aw_box1 hb10 fun B2 hs2 h10 => ?_
  replace h3 := hs2 _ _ h3
  replace h4 := hs2 _ _ h4
  replace h6 := hs2 _ _ h6
  replace hsB := sub_trans hsB hs2
  refine aw_sr rfl ?_  -- r14 @shape.go:186
  simp only [go_sem, reduceIte, Nat.reduceEqDiff, Nat.reduceAdd, Nat.reduceMul, Nat.reduceSub, Nat.reduceLeDiff, Nat.reduceLT, reduceCtorEq, h10, e175]
  refine aw_range dd.2.2.1.length (S := Unit) (fun i _ => [(2, .int .i64 d), (3, .ptr b3 0), (4, .ptr b4 0), (6, .ptr b6 0), (65, .sl (dd.2.2.1.map eMake) dd.2.2.2 .no)]) (fun _ _ => B2) (fun i _ => ∀ k (hk : k < dd.2.2.1.length), k < i → gsF p (d - 1) F t dd.2.2.1[k].1 = none) () (by omega) ?_ (fun _ _ h => h) (fun k _ hk => absurd hk (by omega)) rfl (fun _ _ => rfl) ?_ ?_ (by decide)
  · simp only [go_sem, reduceIte, Nat.reduceEqDiff, Nat.reduceAdd, Nat.reduceMul, Nat.reduceSub, Nat.reduceLeDiff, Nat.reduceLT, reduceCtorEq, Int.natCast_zero]
  · intro i _ hi he
    generalize hm : dd.2.2.1[i] = m
    refine aw_sr rfl ?_  -- r16 @shape.go:186
    simp only [go_sem, reduceIte, Nat.reduceEqDiff, Nat.reduceAdd, Nat.reduceMul, Nat.reduceSub, Nat.reduceLeDiff, Nat.reduceLT, reduceCtorEq, getD_map hi, hm, e177]
    refine ⟨⟨by omega, by omega, wid_map (g := eMake) (fun _ => rfl) _⟩, ?_⟩
    intro b13 hb13
    refine aw_box1 hb13 fun B3 hs3 h13 => ?_
    replace h3 := hs3 _ _ h3
    replace h4 := hs3 _ _ h4
    have h6' := hs3 _ _ h6
    refine aw_sr rfl ?_  -- r17 @shape.go:187
    simp only [go_sem, reduceIte, Nat.reduceEqDiff, Nat.reduceAdd, Nat.reduceMul, Nat.reduceSub, Nat.reduceLeDiff, Nat.reduceLT, reduceCtorEq, h3, h4, h13, e62, cTyp, e177, hw1]
    refine goA_q (q_firsts p (d - 1) F t m.1 hp ht hF) ?_
    cases hg : gsF p (d - 1) F t m.1 with
    | none =>
      simp only [go_sem, reduceIte, Nat.reduceEqDiff, Nat.reduceAdd, Nat.reduceMul, Nat.reduceSub, Nat.reduceLeDiff, Nat.reduceLT, reduceCtorEq, valsV]
      refine aw_sr rfl ?_  -- r18 @shape.go:187
      simp only [go_sem, reduceIte, Nat.reduceEqDiff, Nat.reduceAdd, Nat.reduceMul, Nat.reduceSub, Nat.reduceLeDiff, Nat.reduceLT, reduceCtorEq]
      refine aw_if (b := false) rfl (fun h => by cases h) (fun h => ?_)
      refine aw_skip ⟨(), fun k hk hlt => ?_, ?_, hs3⟩
      · by_cases e : k = i
        · subst e; rw [hm]; exact hg
        · exact he k hk (by omega)
      simp only [go_sem, reduceIte, Nat.reduceEqDiff, Nat.reduceAdd, Nat.reduceMul, Nat.reduceSub, Nat.reduceLeDiff, Nat.reduceLT, reduceCtorEq]
    | some l =>
      simp only [go_sem, reduceIte, Nat.reduceEqDiff, Nat.reduceAdd, Nat.reduceMul, Nat.reduceSub, Nat.reduceLeDiff, Nat.reduceLT, reduceCtorEq, valsV]
      refine aw_sr rfl ?_  -- r18 @shape.go:187
      simp only [go_sem, reduceIte, Nat.reduceEqDiff, Nat.reduceAdd, Nat.reduceMul, Nat.reduceSub, Nat.reduceLeDiff, Nat.reduceLT, reduceCtorEq]
      refine aw_if (b := true) rfl (fun h => ?_) (fun h => by cases h)
      refine aw_sr rfl ?_  -- r19 @shape.go:188
      simp only [go_sem, reduceIte, Nat.reduceEqDiff, Nat.reduceAdd, Nat.reduceMul, Nat.reduceSub, Nat.reduceLeDiff, Nat.reduceLT, reduceCtorEq, h6', h13, e177]
      refine aw_ret ⟨trivial, [.agg [.int .i64 5, .int .i64 0, .str m.1, .sl (l.map eVal) l.isEmpty .no], .bool true], ?_, ?_, sub_hset_fresh hG6 (sub_trans hsB hs3)⟩
      · simp only [go_sem, reduceIte, Nat.reduceEqDiff, Nat.reduceAdd, Nat.reduceMul, Nat.reduceSub, Nat.reduceLeDiff, Nat.reduceLT, reduceCtorEq, resL, resOf, hget_hset_self h6']
      have hf : dd.2.2.1.find? (fun m => (gsF p (d - 1) F t m.1).isSome) = some m := by
        refine List.find?_eq_some_iff_getElem.2 ⟨by rw [hg]; rfl, i, hi, hm, fun k hk => ?_⟩
        rw [he k (by omega) hk]; rfl
      rw [hEd, hf]
      simp only [hg, Option.getD_some]
      exact Vle.refl _
  intro _ he
  refine ⟨rfl, hsB, h6, ?_⟩
  rw [hEd, List.find?_eq_none.2]
  intro m hm
  obtain ⟨k, hk, rfl⟩ := List.getElem_of_mem hm
  rw [he k hk hk]
  simp
end Go.Proofs.Ytomjghlaoncpbaa
