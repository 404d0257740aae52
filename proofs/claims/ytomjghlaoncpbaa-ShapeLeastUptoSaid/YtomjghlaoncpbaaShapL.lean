import Derived.Test.YtomjghlaoncpbaaShapJ
set_option linter.unusedSimpArgs false
set_option linter.unusedVariables false
namespace Go.Proofs.Ytomjghlaoncpbaa
open Go.Proofs.YtomjghlaoncpbaaV
set_option maxHeartbeats 400000
set_option maxRecDepth 100000
theorem ScpAt.stable {G H : Heap} (h : Stable G H) : ∀ {s : Scp} {x : V}, ScpAt G s x → ScpAt H s x
  | [], _, k => k
  | (nm, ts) :: s, _, ⟨b, y, h1, h2, h3⟩ => ⟨b, y, h1, h _ _ h2 (fun _ _ e => by cases e), ScpAt.stable h h3⟩
theorem ScpAt.vars {G H : Heap} (h : ∀ b cs, hget G b = some (.vars cs) → hget H b = some (.vars cs)) : ∀ {s : Scp} {x : V}, ScpAt G s x → ScpAt H s x
  | [], _, k => k
  | (nm, ts) :: s, _, ⟨b, y, h1, h2, h3⟩ => ⟨b, y, h1, h _ _ h2, ScpAt.vars h h3⟩
def kvB (s : List UInt8) : V × V := (.str s, .bool true)
theorem mfind_yes {s : List UInt8} : ∀ {S : List (List UInt8)} {i : Nat}, s ∈ S → ∃ j, mfind (.str s) (S.map kvB) i = some (some (j, .bool true))
  | a :: S, i, h => by
    simp only [List.map_cons, kvB, mfind, keyEq]
    by_cases e : s = a
    · exact ⟨i, by simp [e]⟩
    · obtain ⟨j, hj⟩ := mfind_yes (S := S) (i := i + 1) ((List.mem_cons.1 h).resolve_left e)
      exact ⟨j, by simpa [e] using hj⟩
theorem mfind_no {s : List UInt8} : ∀ {S : List (List UInt8)} {i : Nat}, ¬ s ∈ S → mfind (.str s) (S.map kvB) i = some none
  | [], i, h => rfl
  | a :: S, i, h => by
    simp only [List.mem_cons, not_or] at h
    simp only [List.map_cons, kvB, mfind, keyEq]
    have := mfind_no (S := S) (i := i + 1) h.2
    simpa [h.1] using this
/-- The values of a maker's arguments, by the reference. -/
def gsR (F : Typ → Val × Bool) (dd : Dat) (name : List UInt8) : Option (List Val) :=
  match dd.2.2.1.find? (fun m => decide (m.1 = name)) with
  | none => none
  | some m => if m.2.1.length ≤ 6 then allF F m.2.1 else none
def firstRS (p : Prgm) (d : Int) (F : Scp → Typ → Val × Bool) (m : Typ × Scp) : Val × Bool :=
  if m.1.kind = 1 ∨ m.1.kind = 2 ∨ m.1.kind = 3 ∨ m.1.kind = 4 then (.mk (leafK m.1.kind) 0 [] [] true, true)
  else if m.1.kind = 9 then (match m.1.args with | [a] => if d < 1 then (zVal, false) else (.mk 8 0 [] [(F m.2 a).1] false, (F m.2 a).2) | _ => (zVal, false))
  else if m.1.kind = 6 then (match dataF p m.1.name with
    | none => (zVal, false)
    | some dd => if d < 1 ∨ dd.2.1.1.length ≠ m.1.args.length then (zVal, false) else match dd.2.2.1.find? (fun k => (gsR (F ((dd.2.1, (m.1.args, m.1.nl)) :: m.2)) dd k.1).isSome) with
      | none => (zVal, false)
      | some k => (.mk 5 0 k.1 ((gsR (F ((dd.2.1, (m.1.args, m.1.nl)) :: m.2)) dd k.1).getD []) ((gsR (F ((dd.2.1, (m.1.args, m.1.nl)) :: m.2)) dd k.1).getD []).isEmpty, true))
  else (zVal, false)
theorem zV_le : Vle (oneOf [V.agg [.int .i64 0, .int .i64 0, .str [], .sl [] true .full], .bool false]) (firstV (zVal, false)) :=
  Vle.tupL (.cons (Vle.aggL (.cons (Vle.refl _) (.cons (Vle.refl _) (.cons (Vle.refl _) (.cons Vle.untag .nil))))) (.cons (Vle.refl _) .nil))
theorem a_firstS (p : Prgm) (hp : o56 p.2.2.2.1) (d : Int) (hd0 : 0 ≤ d) (hd1 : d ≤ 1000) (F : Scp → Typ → Val × Bool)
    (hF : 1 ≤ d → ∀ (s : Scp) (a : Typ) (x : V) (G : Heap), OkScp s → OkTyp a → ScpAt G s x → ACall Try.prog 111 [.agg (cPrg p), .agg (cTyp a), x, .int .i64 (d - 1)] (fun r G' => r = firstV (F s a) ∧ G' = G) G)
    (s : Scp) (t : Typ) (x : V) (G : Heap) (hs : OkScp s) (ht : OkTyp t) (hx : ScpAt G s x) :
    ACall Try.prog 111 [.agg (cPrg p), .agg (cTyp t), x, .int .i64 d] (fun r G' => r = firstV (firstRS p d F (meantF s t)) ∧ G' = G) G := by
  refine ACall.weak (ACall.mono (Q := fun r G' => Vle r (firstV (firstRS p d F (meantF s t))) ∧ Sub G G') ?_ (fun r G' ⟨h1, h3⟩ => ⟨_, G, h1, h3, rfl, rfl⟩))
  have hw1 : IntKind.i64.wrap (d - 1) = d - 1 := wrap64 (by omega) (by omega)
  obtain ⟨mo1, mo2⟩ := meantF_ok hs ht
  have hpl : p.2.2.2.1.1.length ≤ 1048576 := hp.2.1
  refine acall_body (rs := [.cell 8 67, .tmp 9]) Try.func111 rfl rfl Try.ntmps111 (by kernel_rfl) (Nat.le_of_ble_eq_true rfl) ?_
  refine aw_sr rfl ?_
  simp only [go_sem, reduceIte, Nat.reduceEqDiff, Nat.reduceAdd, Nat.reduceMul, Nat.reduceSub, Nat.reduceLeDiff, Nat.reduceLT, reduceCtorEq]
  intro b4 hb4 b5 hb5 b8 hb8
  have hG5 := (fresh_cons hb5).2
  have hG8 := (fresh_cons (fresh_cons hb8).2).2
  refine aw_box3 hb4 hb5 hb8 fun B0 hs1 h4 h5 h8 n45 _ n48 _ n58 n85 => ?_
  refine aw_sr rfl ?_
  simp only [go_sem, reduceIte, Nat.reduceEqDiff, Nat.reduceAdd, Nat.reduceMul, Nat.reduceSub, Nat.reduceLeDiff, Nat.reduceLT, reduceCtorEq, h5]
  refine goA_by (a_meant s t x G _ hs1 hs hx) fun r G1 hr => ?_
  obtain ⟨⟨x', rfl, hx'⟩, rfl⟩ := hr
  generalize hm : meantF s t = m at mo1 mo2 hx'
  obtain ⟨t', s'⟩ := m
  simp only at mo1 mo2 hx' ⊢
  simp only [go_sem, reduceIte, Nat.reduceEqDiff, Nat.reduceAdd, Nat.reduceMul, Nat.reduceSub, Nat.reduceLeDiff, Nat.reduceLT, reduceCtorEq, h5]
  obtain ⟨B, hB⟩ : ∃ B, B = hset G1 b5 (AObj.vars (cTyp t')) := ⟨_, rfl⟩
  have h5' : hget B b5 = some (.vars (cTyp t')) := by rw [hB]; exact hget_hset_self h5
  have h4' : hget B b4 = some (.vars (cPrg p)) := by rw [hB, hget_hset_ne n45]; exact h4
  have h8' : hget B b8 = some (.vars [.int .i64 0, .int .i64 0, .str [], .sl [] true .full]) := by rw [hB, hget_hset_ne n85]; exact h8
  have hsB : Sub G B := by rw [hB]; exact sub_hset_fresh hG5 hs1
  have hB0 : Sub B (hset G1 b5 (AObj.vars (cTyp t'))) := by rw [hB]; exact sub_rfl
  refine AW.of_hsub hB0 ?_
  clear hB hB0 h4 h5 h8
  have h4 := h4'
  have h5 := h5'
  have h8 := h8'
  clear h4' h5' h8'
  have hxB : ScpAt B s' x' := hx'.sub hsB
  have htl : t'.args.length ≤ 1048576 := mo1.len
  generalize hE : firstRS p d F (t', s') = E
  refine aw_mid (fun f' G' => FSub [(8, .ptr b8 0)] f' ∧ Sub G G' ∧ hget G' b8 = some (.vars [.int .i64 0, .int .i64 0, .str [], .sl [] true .full]) ∧ E = (zVal, false)) ?_ ?_
  case refine_2 =>
    intro f' G' ⟨hf, hg, h8, he⟩
    refine AW.of_fsub hf ?_
    refine aw_sr rfl ?_  -- r36
    simp only [go_sem, reduceIte, Nat.reduceEqDiff, Nat.reduceAdd, Nat.reduceMul, Nat.reduceSub, Nat.reduceLeDiff, Nat.reduceLT, reduceCtorEq, h8]
    refine aw_ret ⟨trivial, [.agg [.int .i64 0, .int .i64 0, .str [], .sl [] true .full], .bool false], ?_, ?_, sub_hset_fresh hG8 hg⟩
    · simp only [go_sem, reduceIte, Nat.reduceEqDiff, Nat.reduceAdd, Nat.reduceMul, Nat.reduceSub, Nat.reduceLeDiff, Nat.reduceLT, reduceCtorEq, resL, resOf, hget_hset_self h8]
    rw [he]
    exact zV_le
  refine aw_sr rfl ?_
  simp only [go_sem, reduceIte, Nat.reduceEqDiff, Nat.reduceAdd, Nat.reduceMul, Nat.reduceSub, Nat.reduceLeDiff, Nat.reduceLT, reduceCtorEq, h5, cTyp]
  refine aw_block ?_  -- 0
  refine aw_mid (fun f' G' => ∃ c, (c = true ↔ (t'.kind = 1 ∨ t'.kind = 2 ∨ t'.kind = 3 ∨ t'.kind = 4)) ∧ FSub [(30, .bool c), (29, .int .i64 t'.kind), (2, x'), (3, .int .i64 d), (4, .ptr b4 0), (5, .ptr b5 0), (8, .ptr b8 0)] f' ∧ G' = B) ?_ ?_
  · -- 4 ways
    refine aw_sr rfl ?_
    simp only [go_sem, reduceIte, Nat.reduceEqDiff, Nat.reduceAdd, Nat.reduceMul, Nat.reduceSub, Nat.reduceLeDiff, Nat.reduceLT, reduceCtorEq]
    refine aw_if rfl (fun h => ?_) (fun h => ?_)
    · exact aw_skip ⟨decide (t'.kind = 1), by have : t'.kind = 1 := by simpa using h
                                              simp [this], ⟨rfl, rfl, rfl, rfl, rfl, rfl, rfl⟩, rfl⟩
    have k1 : ¬ t'.kind = 1 := by simpa using h
    refine aw_sr rfl ?_
    simp only [go_sem, reduceIte, Nat.reduceEqDiff, Nat.reduceAdd, Nat.reduceMul, Nat.reduceSub, Nat.reduceLeDiff, Nat.reduceLT, reduceCtorEq]
    refine aw_if rfl (fun h => ?_) (fun h => ?_)
    · exact aw_skip ⟨decide (t'.kind = 2), by have : t'.kind = 2 := by simpa using h
                                              simp [this], ⟨rfl, rfl, rfl, rfl, rfl, rfl, rfl⟩, rfl⟩
    have k2 : ¬ t'.kind = 2 := by simpa using h
    refine aw_sr rfl ?_
    simp only [go_sem, reduceIte, Nat.reduceEqDiff, Nat.reduceAdd, Nat.reduceMul, Nat.reduceSub, Nat.reduceLeDiff, Nat.reduceLT, reduceCtorEq]
    refine aw_if rfl (fun h => ?_) (fun h => ?_)
    · exact aw_skip ⟨decide (t'.kind = 3), by have : t'.kind = 3 := by simpa using h
                                              simp [this], ⟨rfl, rfl, rfl, rfl, rfl, rfl, rfl⟩, rfl⟩
    have k3 : ¬ t'.kind = 3 := by simpa using h
    refine aw_rg rfl ?_
    simp only [go_sem, reduceIte, Nat.reduceEqDiff, Nat.reduceAdd, Nat.reduceMul, Nat.reduceSub, Nat.reduceLeDiff, Nat.reduceLT, reduceCtorEq]
    exact ⟨decide (t'.kind = 4), by simp [k1, k2, k3], ⟨rfl, rfl, rfl, rfl, rfl, rfl, rfl⟩, rfl⟩
  intro f' G' ⟨c, hc, hf, hg⟩
  rw [hg]
  refine AW.of_fsub hf ?_
  refine aw_if rfl (fun h => ?_) (fun h => ?_)
  · have hks := hc.1 h
    have hE1 : E = (.mk (leafK t'.kind) 0 [] [] true, true) := by rw [← hE]; unfold firstRS; rw [if_pos hks]
    have hl : ([[V.int .i64 0], [V.int .i64 2], [V.int .i64 3], [V.int .i64 4], [V.int .i64 1]] : List (List V)).getD t'.kind.toNat [] = [.int .i64 (leafK t'.kind)] ∧ 0 ≤ t'.kind ∧ t'.kind < 5 := by
      rcases hks with q | q | q | q <;> rw [q] <;> exact ⟨rfl, by decide, by decide⟩
    obtain ⟨hw1, hw4, hw5⟩ := hl
    refine aw_sr rfl ?_  -- r7
    simp only [go_sem, reduceIte, Nat.reduceEqDiff, Nat.reduceAdd, Nat.reduceMul, Nat.reduceSub, Nat.reduceLeDiff, Nat.reduceLT, reduceCtorEq, h5, h8, cTyp, hw1]
    refine ⟨⟨hw4, by omega, by simp [wid]⟩, ?_⟩
    refine aw_ret ⟨trivial, [.agg [.int .i64 (leafK t'.kind), .int .i64 0, .str [], .sl [] true .full], .bool true], ?_, ?_, sub_hset_fresh hG8 hsB⟩
    · simp only [go_sem, reduceIte, Nat.reduceEqDiff, Nat.reduceAdd, Nat.reduceMul, Nat.reduceSub, Nat.reduceLeDiff, Nat.reduceLT, reduceCtorEq, resL, resOf, hget_hset_self h8]
    rw [hE1]
    exact Vle.tupL (.cons (Vle.aggL (.cons (Vle.refl _) (.cons (Vle.refl _) (.cons (Vle.refl _) (.cons Vle.untag .nil))))) (.cons (Vle.refl _) .nil))
  have hnk : ¬ (t'.kind = 1 ∨ t'.kind = 2 ∨ t'.kind = 3 ∨ t'.kind = 4) := fun q => by rw [hc.2 q] at h; cases h
  refine aw_sr rfl ?_
  simp only [go_sem, reduceIte, Nat.reduceEqDiff, Nat.reduceAdd, Nat.reduceMul, Nat.reduceSub, Nat.reduceLeDiff, Nat.reduceLT, reduceCtorEq]
  refine aw_if rfl (fun h => ?_) (fun h => ?_)
  · have k9 : t'.kind = 9 := by simpa using h
    refine aw_seq fun K1 hK1 => ?_
    refine aw_sr rfl ?_
    simp only [go_sem, reduceIte, Nat.reduceEqDiff, Nat.reduceAdd, Nat.reduceMul, Nat.reduceSub, Nat.reduceLeDiff, Nat.reduceLT, reduceCtorEq, h5, cTyp]
    refine aw_if rfl (fun h => ?_) (fun h => ?_)
    · have hE1 : E = (zVal, false) := by
        rw [← hE]
        unfold firstRS
        rw [if_neg hnk, if_pos k9]
        simp only
        split
        · rename_i a ha
          rw [ha] at h
          rw [if_pos (by simpa using h)]
        · rfl
      refine aw_sr rfl ?_
      simp only [go_sem, reduceIte, Nat.reduceEqDiff, Nat.reduceAdd, Nat.reduceMul, Nat.reduceSub, Nat.reduceLeDiff, Nat.reduceLT, reduceCtorEq, h8]
      refine aw_ret ⟨trivial, [.agg [.int .i64 0, .int .i64 0, .str [], .sl [] true .full], .bool false], ?_, ?_, sub_hset_fresh hG8 hsB⟩
      · simp only [go_sem, reduceIte, Nat.reduceEqDiff, Nat.reduceAdd, Nat.reduceMul, Nat.reduceSub, Nat.reduceLeDiff, Nat.reduceLT, reduceCtorEq, resL, resOf, hget_hset_self h8]
      rw [hE1]
      exact zV_le
    have hcd : t'.args.length = 1 ∧ 1 ≤ d := by
      simp at h; omega
    obtain ⟨a, ha⟩ : ∃ a, t'.args = [a] := by
      match hh : t'.args with
      | [a] => exact ⟨a, rfl⟩
      | [] => rw [hh] at hcd; simp at hcd
      | _ :: _ :: _ => rw [hh] at hcd; simp at hcd
    have hE1 : E = (.mk 8 0 [] [(F s' a).1] false, (F s' a).2) := by
      rw [← hE]
      unfold firstRS
      rw [if_neg hnk, if_pos k9]
      simp only [ha]
      rw [if_neg (by omega)]
    refine aw_skip (hK1 _ _ ?_)
    refine aw_srd [(0,true),(1,true),(2,true),(3,true),(4,true),(5,true),(6,true),(7,true),(8,true),(9,true),(10,true),(11,true),(12,false),(13,false),(14,true)] mixed rfl (by kernel_rfl) ?_
    have h0 : (t'.args.map eTyp).getD 0 [] = cTyp a := by rw [ha]; exact eTyp_eq a
    simp only [go_sem, reduceIte, Nat.reduceEqDiff, Nat.reduceAdd, Nat.reduceMul, Nat.reduceSub, Nat.reduceLeDiff, Nat.reduceLT, reduceCtorEq, h4, h5, cTyp, h0, hw1, e62, Int.toNat_zero]
    refine ⟨⟨by omega, by omega, wid_eTyp _⟩, ?_⟩
    refine goQ_on (fun G' hst => hF hcd.2 s' a x' G' mo2 (mo1.arg (by rw [ha]; simp)) (hxB.stable hst)) ?_
    simp only [go_sem, reduceIte, Nat.reduceEqDiff, Nat.reduceAdd, Nat.reduceMul, Nat.reduceSub, Nat.reduceLeDiff, Nat.reduceLT, reduceCtorEq, firstV, cV]
    intro b10 hb10
    refine aw_box1 hb10 fun B2 hs2 h10 => ?_
    replace h8 := hs2 _ _ h8
    replace hsB := sub_trans hsB hs2
    refine aw_sr rfl ?_
    simp only [go_sem, reduceIte, Nat.reduceEqDiff, Nat.reduceAdd, Nat.reduceMul, Nat.reduceSub, Nat.reduceLeDiff, Nat.reduceLT, reduceCtorEq, h8, h10]
    refine aw_ret ⟨trivial, [.agg [.int .i64 8, .int .i64 0, .str [], .sl [eVal (F s' a).1] false .full], .bool (F s' a).2], ?_, ?_, sub_hset_fresh hG8 hsB⟩
    · simp only [go_sem, reduceIte, Nat.reduceEqDiff, Nat.reduceAdd, Nat.reduceMul, Nat.reduceSub, Nat.reduceLeDiff, Nat.reduceLT, reduceCtorEq, resL, resOf, hget_hset_self h8, eC, cV]
    rw [hE1]
    exact Vle.tupL (.cons (Vle.aggL (.cons (Vle.refl _) (.cons (Vle.refl _) (.cons (Vle.refl _) (.cons Vle.untag .nil))))) (.cons (Vle.refl _) .nil))
  have k9 : ¬ t'.kind = 9 := by simpa using h
  refine aw_sr rfl ?_
  simp only [go_sem, reduceIte, Nat.reduceEqDiff, Nat.reduceAdd, Nat.reduceMul, Nat.reduceSub, Nat.reduceLeDiff, Nat.reduceLT, reduceCtorEq]
  refine aw_if rfl (fun h => ?_) (fun h => ?_)
  case refine_2 =>
    have k6 : ¬ t'.kind = 6 := by simpa using h
    exact aw_skip ⟨rfl, hsB, h8, by rw [← hE]; unfold firstRS; rw [if_neg hnk, if_neg k9, if_neg k6]⟩
  have k6 : t'.kind = 6 := by simpa using h
  refine aw_sr rfl ?_  -- r14
  simp only [go_sem, reduceIte, Nat.reduceEqDiff, Nat.reduceAdd, Nat.reduceMul, Nat.reduceSub, Nat.reduceLeDiff, Nat.reduceLT, reduceCtorEq, h4, h5, cTyp, e62]
  refine goA_q (q_dataOf p t'.name hp.2.1) ?_
  simp only [go_sem, reduceIte, Nat.reduceEqDiff, Nat.reduceAdd, Nat.reduceMul, Nat.reduceSub, Nat.reduceLeDiff, Nat.reduceLT, reduceCtorEq]
  refine aw_seq fun K2 hK2 => ?_
  refine aw_srd [(0,true),(1,true),(2,true),(3,true),(4,true),(5,true),(6,true),(7,true),(8,true),(9,true),(10,true),(11,true),(12,true),(13,true),(14,true),(15,true),(16,true),(17,true),(18,true)] mixed rfl (by kernel_rfl) ?_  -- r15
  have hE0 := hE
  unfold firstRS at hE0
  rw [if_neg hnk, if_neg k9, if_pos k6] at hE0
  simp only at hE0
  rcases dataF_ix p t'.name with ⟨e1, e2⟩ | ⟨i0, hi0, e1, e2⟩
  · rw [e1] at hE0
    rw [e2]
    have hneg : decide ((ixI none : Int) < 0) = true := rfl
    have hcs : (p.2.2.2.1.1.map eData).getD (ixI none).toNat [] = [] ∨ ∃ d0, (p.2.2.2.1.1.map eData).getD (ixI none).toNat [] = eData d0 := by
      cases p.2.2.2.1.1 with
      | nil => exact .inl rfl
      | cons d0 ds => exact .inr ⟨d0, rfl⟩
    rcases hcs with hcs | ⟨d0, hcs⟩
    all_goals
      simp only [go_sem, reduceIte, Nat.reduceEqDiff, Nat.reduceAdd, Nat.reduceMul, Nat.reduceSub, Nat.reduceLeDiff, Nat.reduceLT, reduceCtorEq, h4, h5, cTyp, e62, hneg, hcs, e175, not_true_eq_false, false_implies, true_and, Bool.true_or]
      refine aw_if (b := true) rfl (fun h => ?_) (fun h => by cases h)
      refine aw_sr rfl ?_
      simp only [go_sem, reduceIte, Nat.reduceEqDiff, Nat.reduceAdd, Nat.reduceMul, Nat.reduceSub, Nat.reduceLeDiff, Nat.reduceLT, reduceCtorEq, h8]
      refine aw_ret ⟨trivial, [.agg [.int .i64 0, .int .i64 0, .str [], .sl [] true .full], .bool false], ?_, ?_, sub_hset_fresh hG8 hsB⟩
      · simp only [go_sem, reduceIte, Nat.reduceEqDiff, Nat.reduceAdd, Nat.reduceMul, Nat.reduceSub, Nat.reduceLeDiff, Nat.reduceLT, reduceCtorEq, resL, resOf, hget_hset_self h8]
      rw [← hE0]
      exact zV_le
  rw [e2]
  generalize hd : p.2.2.2.1.1[i0] = dd at e1
  rw [e1] at hE0
  simp only at hE0
  have hdm : dd ∈ p.2.2.2.1.1 := by rw [← hd]; exact List.getElem_mem hi0
  have hdo := hp.2.2 dd hdm
  have hml : dd.2.2.1.length ≤ 1048576 := hdo.2.2.2.1
  have hneg : decide ((i0 : Int) < 0) = false := decide_eq_false (by omega)
  simp only [go_sem, reduceIte, Nat.reduceEqDiff, Nat.reduceAdd, Nat.reduceMul, Nat.reduceSub, Nat.reduceLeDiff, Nat.reduceLT, reduceCtorEq, h4, h5, cTyp, e62, ixI, hneg, getD_map hi0, hd, e175]
  refine ⟨fun _ => ⟨by omega, by omega, wid_map (g := eData) (fun _ => rfl) _⟩, ?_⟩
  refine aw_if rfl (fun h => ?_) (fun h => ?_)
  · have hc : d < 1 ∨ dd.2.1.1.length ≠ t'.args.length := by
      simp at h; omega
    rw [if_pos hc] at hE0
    refine aw_sr rfl ?_
    simp only [go_sem, reduceIte, Nat.reduceEqDiff, Nat.reduceAdd, Nat.reduceMul, Nat.reduceSub, Nat.reduceLeDiff, Nat.reduceLT, reduceCtorEq, h8]
    refine aw_ret ⟨trivial, [.agg [.int .i64 0, .int .i64 0, .str [], .sl [] true .full], .bool false], ?_, ?_, sub_hset_fresh hG8 hsB⟩
    · simp only [go_sem, reduceIte, Nat.reduceEqDiff, Nat.reduceAdd, Nat.reduceMul, Nat.reduceSub, Nat.reduceLeDiff, Nat.reduceLT, reduceCtorEq, resL, resOf, hget_hset_self h8]
    rw [← hE0]
    exact zV_le
  have hc : 1 ≤ d ∧ dd.2.1.1.length = t'.args.length := by
    simp at h; omega
  rw [if_neg (by omega)] at hE0
  generalize hsc : F ((dd.2.1, (t'.args, t'.nl)) :: s') = F2 at hE0
  refine aw_skip (hK2 _ _ ?_)
  refine aw_sr rfl ?_  -- r17
  simp only [go_sem, reduceIte, Nat.reduceEqDiff, Nat.reduceAdd, Nat.reduceMul, Nat.reduceSub, Nat.reduceLeDiff, Nat.reduceLT, reduceCtorEq]
  intro bm hbm
  refine aw_box1 hbm fun B2 hs2 hm => ?_
  replace h4 := hs2 _ _ h4
  replace h5 := hs2 _ _ h5
  have n8 := ne_fresh h8 hbm
  have hGm := sub_none hsB hbm
  replace h8 := hs2 _ _ h8
  replace hsB := sub_trans hsB hs2
  replace hxB := hxB.sub hs2
  refine aw_sr rfl ?_  -- r18
  simp only [go_sem, reduceIte, Nat.reduceEqDiff, Nat.reduceAdd, Nat.reduceMul, Nat.reduceSub, Nat.reduceLeDiff, Nat.reduceLT, reduceCtorEq, h4, e62, getD_map hi0, hd, e175]
  refine ⟨⟨by omega, by omega, wid_map (g := eData) (fun _ => rfl) _⟩, ?_⟩
  refine aw_range dd.2.2.1.length (S := Heap × List (List UInt8)) (fun i _ => [(2, x'), (3, .int .i64 d), (4, .ptr b4 0), (5, .ptr b5 0), (8, .ptr b8 0), (12, .int .i64 i0), (13, .map bm), (100, .sl (dd.2.2.1.map eMake) dd.2.2.2 .no)]) (fun _ st => st.1)
    (fun i st => Sub G st.1 ∧ hget st.1 b4 = some (.vars (cPrg p)) ∧ hget st.1 b5 = some (.vars (cTyp t')) ∧ hget st.1 b8 = some (.vars [.int .i64 0, .int .i64 0, .str [], .sl [] true .full]) ∧ hget st.1 bm = some (.map (st.2.map kvB)) ∧ ScpAt st.1 s' x' ∧
      (∀ s, s ∈ st.2 ↔ ∃ k, ∃ hk : k < dd.2.2.1.length, k < i ∧ dd.2.2.1[k].1 = s) ∧ ∀ k (hk : k < dd.2.2.1.length), k < i → gsR F2 dd dd.2.2.1[k].1 = none)
    (B2, []) (by omega) ?_ (fun _ _ h => h) ⟨hsB, h4, h5, h8, hm, hxB, fun s => ⟨fun h => (by cases h), fun ⟨k, _, h, _⟩ => absurd h (by omega)⟩, fun k _ hk => absurd hk (by omega)⟩ rfl (fun _ _ => rfl) ?_ ?_ (by decide)
  · simp only [go_sem, reduceIte, Nat.reduceEqDiff, Nat.reduceAdd, Nat.reduceMul, Nat.reduceSub, Nat.reduceLeDiff, Nat.reduceLT, reduceCtorEq, Int.natCast_zero]
  · intro i ⟨H, L⟩ hi ⟨hs, h4, h5, h8, hm, hx, hL, he⟩
    simp only at hs h4 h5 h8 hm hx hL he ⊢
    generalize hmi : dd.2.2.1[i] = m
    have hmm : m ∈ dd.2.2.1 := by rw [← hmi]; exact List.getElem_mem hi
    have hmo := (hdo.2.2.2.2 m hmm).2
    have hmal : m.2.1.length ≤ 1048576 := hmo.len
    refine aw_sr rfl ?_  -- r20
    simp only [go_sem, reduceIte, Nat.reduceEqDiff, Nat.reduceAdd, Nat.reduceMul, Nat.reduceSub, Nat.reduceLeDiff, Nat.reduceLT, reduceCtorEq, getD_map hi, hmi, e177]
    refine ⟨⟨by omega, by omega, wid_map (g := eMake) (fun _ => rfl) _⟩, ?_⟩
    intro b15 hb15
    refine aw_box1 hb15 fun B3 hs3 h15 => ?_
    replace h4 := hs3 _ _ h4
    replace h5 := hs3 _ _ h5
    replace h8 := hs3 _ _ h8
    have n15 := ne_fresh hm hb15
    replace hm := hs3 _ _ hm
    replace hx := hx.sub hs3
    have hs' := sub_trans hs hs3
    have hkk : (IntKind.i64 == IntKind.i64) = true := rfl
    refine aw_seq fun K3 hK3 => ?_
    refine aw_sr rfl ?_  -- r21
    by_cases hmem : m.1 ∈ L
    · obtain ⟨j, hj⟩ := mfind_yes (i := 0) hmem
      simp only [go_sem, reduceIte, Nat.reduceEqDiff, Nat.reduceAdd, Nat.reduceMul, Nat.reduceSub, Nat.reduceLeDiff, Nat.reduceLT, reduceCtorEq, h15, hm, e177, hj]
      refine aw_if (b := true) rfl (fun h => ?_) (fun h => by cases h)
      refine aw_exit ?_  -- 2
      refine ⟨(B3, L), ⟨hs', h4, h5, h8, hm, hx, fun s => ⟨fun h => ?_, fun ⟨k, hk, hlt, e⟩ => ?_⟩, fun k hk hlt => ?_⟩, ?_, sub_rfl⟩
      · obtain ⟨k, hk, hlt, e⟩ := (hL s).1 h
        exact ⟨k, hk, by omega, e⟩
      · by_cases ek : k = i
        · subst ek; rw [hmi] at e; rw [← e]; exact hmem
        · exact (hL s).2 ⟨k, hk, by omega, e⟩
      · by_cases ek : k = i
        · subst ek
          obtain ⟨k2, hk2, hlt2, e⟩ := (hL m.1).1 hmem
          rw [hmi, ← e]
          exact he k2 hk2 hlt2
        · exact he k hk (by omega)
      · simp only [go_sem, reduceIte, Nat.reduceEqDiff, Nat.reduceAdd, Nat.reduceMul, Nat.reduceSub, Nat.reduceLeDiff, Nat.reduceLT, reduceCtorEq]
    have hj := mfind_no (i := 0) hmem
    simp only [go_sem, reduceIte, Nat.reduceEqDiff, Nat.reduceAdd, Nat.reduceMul, Nat.reduceSub, Nat.reduceLeDiff, Nat.reduceLT, reduceCtorEq, h15, hm, e177, hj]
    refine aw_if (b := false) rfl (fun h => by cases h) (fun h => ?_)
    refine aw_skip (hK3 _ _ ?_)
    have hfind : dd.2.2.1.find? (fun k => decide (k.1 = m.1)) = some m := by
      refine List.find?_eq_some_iff_getElem.2 ⟨by simp, i, hi, hmi, fun k hk => ?_⟩
      have : ¬ dd.2.2.1[k].1 = m.1 := fun e => hmem ((hL m.1).2 ⟨k, by omega, hk, e⟩)
      simp [this]
    have hgs : gsR F2 dd m.1 = if m.2.1.length ≤ 6 then allF F2 m.2.1 else none := by unfold gsR; rw [hfind]
    refine aw_sr rfl ?_  -- r22
    simp only [go_sem, reduceIte, Nat.reduceEqDiff, Nat.reduceAdd, Nat.reduceMul, Nat.reduceSub, Nat.reduceLeDiff, Nat.reduceLT, reduceCtorEq, h15, hm, e177, hj, mput]
    obtain ⟨C, hC⟩ : ∃ C, C = hset B3 bm (AObj.map (L.map kvB ++ [(V.str m.1, V.bool true)])) := ⟨_, rfl⟩
    have hC0 : Sub C (hset B3 bm (AObj.map (L.map kvB ++ [(V.str m.1, V.bool true)]))) := by rw [hC]; exact sub_rfl
    have hLm : L.map kvB ++ [(V.str m.1, V.bool true)] = (L ++ [m.1]).map kvB := by rw [List.map_append]; rfl
    have c4 : hget C b4 = some (.vars (cPrg p)) := by rw [hC]; exact hset_keep h4 fun e => by subst e; rw [h4] at hm; cases hm
    have c5 : hget C b5 = some (.vars (cTyp t')) := by rw [hC]; exact hset_keep h5 fun e => by subst e; rw [h5] at hm; cases hm
    have c8 : hget C b8 = some (.vars [.int .i64 0, .int .i64 0, .str [], .sl [] true .full]) := by rw [hC]; exact hset_keep h8 fun e => by subst e; rw [h8] at hm; cases hm
    have c15 : hget C b15 = some (.vars (eMake m)) := by rw [hC]; exact hset_keep h15 fun e => by subst e; rw [h15] at hm; cases hm
    have cm : hget C bm = some (.map ((L ++ [m.1]).map kvB)) := by rw [hC, hget_hset_self hm, hLm]
    have hsC : Sub G C := by rw [hC]; exact sub_hset_fresh hGm hs'
    have hxC : ScpAt C s' x' := by
      rw [hC]
      exact hx.vars fun b cs hb => hset_keep hb fun e => by subst e; rw [hb] at hm; cases hm
    refine AW.of_hsub hC0 ?_
    clear hC hC0
    refine aw_sr rfl ?_  -- r23
    simp only [go_sem, reduceIte, Nat.reduceEqDiff, Nat.reduceAdd, Nat.reduceMul, Nat.reduceSub, Nat.reduceLeDiff, Nat.reduceLT, reduceCtorEq, c15, e177]
    refine aw_sr rfl ?_  -- r24
    simp only [go_sem, reduceIte, Nat.reduceEqDiff, Nat.reduceAdd, Nat.reduceMul, Nat.reduceSub, Nat.reduceLeDiff, Nat.reduceLT, reduceCtorEq, c15, e177]
    intro b17 hb17
    have hG17 := sub_none hsC hb17
    have m4 := ne_fresh c4 hb17
    have m5 := ne_fresh c5 hb17
    have m8 := ne_fresh c8 hb17
    have mm := ne_fresh cm hb17
    have m15 := ne_fresh c15 hb17
    refine aw_box1 hb17 fun D hs4 d17 => ?_
    have d4 := hs4 _ _ c4
    have d5 := hs4 _ _ c5
    have d8 := hs4 _ _ c8
    have dm := hs4 _ _ cm
    have d15 := hs4 _ _ c15
    have dx := hxC.sub hs4
    have hsD := sub_trans hsC hs4
    refine aw_mid (fun f' G' => ∃ okv, FSub [(16, .bool okv), (17, .ptr b17 0), (2, x'), (3, .int .i64 d), (4, .ptr b4 0), (5, .ptr b5 0), (8, .ptr b8 0), (12, .int .i64 i0), (13, .map bm), (100, .sl (dd.2.2.1.map eMake) dd.2.2.2 .no), (101, .int .i64 dd.2.2.1.length), (102, .int .i64 i)] f' ∧
      Sub G G' ∧ hget G' b4 = some (.vars (cPrg p)) ∧ hget G' b5 = some (.vars (cTyp t')) ∧ hget G' b8 = some (.vars [.int .i64 0, .int .i64 0, .str [], .sl [] true .full]) ∧ hget G' bm = some (.map ((L ++ [m.1]).map kvB)) ∧ ScpAt G' s' x' ∧
      (okv = true → ∃ l tg, gsR F2 dd m.1 = some l ∧ hget G' b17 = some (.vars [.int .i64 5, .int .i64 0, .str m.1, .sl (l.map eVal) l.isEmpty tg])) ∧ (okv = false → gsR F2 dd m.1 = none)) ?_ ?_
    · refine aw_sr rfl ?_  -- r25
      simp only [go_sem, reduceIte, Nat.reduceEqDiff, Nat.reduceAdd, Nat.reduceMul, Nat.reduceSub, Nat.reduceLeDiff, Nat.reduceLT, reduceCtorEq, d15, e177]
      refine aw_range m.2.1.length (S := Bool × Bool × Tag × Heap) (fun _ st => [(16, .bool st.1), (17, .ptr b17 0), (2, x'), (3, .int .i64 d), (4, .ptr b4 0), (5, .ptr b5 0), (8, .ptr b8 0), (12, .int .i64 i0), (13, .map bm), (100, .sl (dd.2.2.1.map eMake) dd.2.2.2 .no), (101, .int .i64 dd.2.2.1.length), (102, .int .i64 i), (121, .sl (m.2.1.map eTyp) m.2.2 .no)]) (fun _ st => st.2.2.2)
        (fun j st => Rm G st.2.2.2 4 st.2.2.1 ∧ Sub G st.2.2.2 ∧ hget st.2.2.2 b4 = some (.vars (cPrg p)) ∧ hget st.2.2.2 b5 = some (.vars (cTyp t')) ∧ hget st.2.2.2 b8 = some (.vars [.int .i64 0, .int .i64 0, .str [], .sl [] true .full]) ∧ hget st.2.2.2 bm = some (.map ((L ++ [m.1]).map kvB)) ∧ ScpAt st.2.2.2 s' x' ∧
          hget st.2.2.2 b17 = some (.vars [.int .i64 5, .int .i64 0, .str m.1, .sl (((m.2.1.take j).map fun a => (F2 a).1).map eVal) st.2.1 st.2.2.1]) ∧ st.2.1 = (m.2.1.take j).isEmpty ∧ st.1 = (decide (m.2.1.length ≤ 6) && (m.2.1.take j).all fun a => (F2 a).2))
        (decide (m.2.1.length ≤ 6), true, .full, D) (by omega) ?_ (fun _ _ h => h) ⟨Rm.start _ _ _, hsD, d4, d5, d8, dm, dx, by simpa using d17, by simp, by simp⟩ rfl (fun _ _ => rfl) ?_ ?_ (by decide)
      · simp only [go_sem, reduceIte, Nat.reduceEqDiff, Nat.reduceAdd, Nat.reduceMul, Nat.reduceSub, Nat.reduceLeDiff, Nat.reduceLT, reduceCtorEq, Int.natCast_zero, show decide ((m.2.1.length : Int) ≤ 6) = decide (m.2.1.length ≤ 6) from decide_eq_decide.2 (by omega)]
      · intro j ⟨okv, nl2, t2, H⟩ hj ⟨hr, hs, h4, h5, h8, hm, hx, h17, hnl, hok⟩
        simp only at hr hs h4 h5 h8 hm hx h17 hnl hok ⊢
        have ham : m.2.1[j] ∈ m.2.1 := List.getElem_mem hj
        refine aw_sr rfl ?_  -- r27
        simp only [go_sem, reduceIte, Nat.reduceEqDiff, Nat.reduceAdd, Nat.reduceMul, Nat.reduceSub, Nat.reduceLeDiff, Nat.reduceLT, reduceCtorEq, getD_map hj, eTyp_eq]
        refine ⟨⟨by omega, by omega, wid_eTyp _⟩, ?_⟩
        intro b19 hb19
        refine aw_box1 hb19 fun B5 hs5 h19 => ?_
        replace h4 := hs5 _ _ h4
        replace h5 := hs5 _ _ h5
        replace h8 := hs5 _ _ h8
        replace hm := hs5 _ _ hm
        replace h17 := hs5 _ _ h17
        replace hx := hx.sub hs5
        replace hr := hr.sub hs5
        replace hs := sub_trans hs hs5
        refine aw_seq fun K5 hK5 => ?_
        refine aw_sr rfl ?_  -- r28
        simp only [go_sem, reduceIte, Nat.reduceEqDiff, Nat.reduceAdd, Nat.reduceMul, Nat.reduceSub, Nat.reduceLeDiff, Nat.reduceLT, reduceCtorEq]
        refine aw_if rfl (fun h => ?_) (fun h => ?_)
        · have hof : okv = false := by simpa using h
          refine aw_exit ?_  -- 3
          refine ⟨okv, ?_, hs, h4, h5, h8, hm, hx, fun q => (by rw [hof] at q; cases q), fun _ => ?_⟩
          · simp only [go_sem, reduceIte, Nat.reduceEqDiff, Nat.reduceAdd, Nat.reduceMul, Nat.reduceSub, Nat.reduceLeDiff, Nat.reduceLT, reduceCtorEq]
          rw [hgs]
          split
          · rename_i h6
            rw [decide_eq_true h6, Bool.true_and, hof] at hok
            unfold allF
            rw [if_neg]
            intro q
            rw [List.all_eq_true] at q
            have hq : (m.2.1.take j).all (fun a => (F2 a).2) = true := List.all_eq_true.2 fun a ha => q a (List.mem_of_mem_take ha)
            rw [hq] at hok; cases hok
          · rfl
        have hot : okv = true := by simpa using h
        rw [hot] at hok
        have hok2 := hok.symm
        rw [Bool.and_eq_true, decide_eq_true_eq] at hok2
        refine aw_skip (hK5 _ _ ?_)
        have hFq := fun (G' : Heap) (b : Nat) (h : hget G' b = some (.vars [.sl (dd.2.1.1.map eNm) dd.2.1.2 .no, .sl (t'.args.map eTyp) t'.nl .no, x'])) (hx : ScpAt G' s' x') =>
          hF hc.1 ((dd.2.1, (t'.args, t'.nl)) :: s') m.2.1[j] (.ptr b 0) G' (by
            intro f hf
            rcases List.mem_cons.1 hf with rfl | hf
            · exact ⟨hdo.2.1.2.1, htl, fun t ht => mo1.arg ht⟩
            · exact mo2 f hf) (hmo.mem ham).1 ⟨b, _, rfl, h, hx⟩
        rw [hsc] at hFq
        have happ : ((m.2.1.take j).map fun a => (F2 a).1).map eVal ++ [eVal (F2 m.2.1[j]).1] = ((m.2.1.take (j + 1)).map fun a => (F2 a).1).map eVal := by
          rw [List.take_succ_eq_append_getElem hj]; simp only [List.map_append, List.map_cons, List.map_nil]
        rw [eC] at happ
        have hall : (F2 m.2.1[j]).2 = (decide (m.2.1.length ≤ 6) && (m.2.1.take (j + 1)).all fun a => (F2 a).2) := by
          rw [List.take_succ_eq_append_getElem hj, List.all_append, hok2.2, decide_eq_true hok2.1]; simp
        refine aw_srf [(0,true),(1,true),(2,true),(3,true),(4,true),(5,true),(6,true),(7,true),(8,true),(9,true),(10,true),(11,true),(13,true),(14,true)] 12 19 [(15,true),(16,true),(17,true),(18,true),(19,false),(20,false),(21,true)] [(12,false),(15,true),(16,true),(17,true),(18,true),(20,false),(21,true)] mixed rfl (by kernel_rfl) ?_  -- r29
        rcases hx.form with hxf | ⟨bx, hxf⟩
        all_goals
          subst hxf
          simp only [go_sem, reduceIte, Nat.reduceEqDiff, Nat.reduceAdd, Nat.reduceMul, Nat.reduceSub, Nat.reduceLeDiff, Nat.reduceLT, reduceCtorEq, h4, h5, h19, cTyp, hw1, e62, getD_map hi0, hd, e175]
          refine ⟨⟨by omega, by omega, wid_map (g := eData) (fun _ => rfl) _⟩, ?_, ?_⟩
          · intro b142 hb142
            refine goQ_on (fun G' hst => hFq G' b142 (hst _ _ (hget_self _ _ _) (fun _ _ e => by cases e)) ((hx.sub (sub_tail hb142)).stable hst)) ?_
            simp only [go_sem, reduceIte, Nat.reduceEqDiff, Nat.reduceAdd, Nat.reduceMul, Nat.reduceSub, Nat.reduceLeDiff, Nat.reduceLT, reduceCtorEq, firstV, cV]
            intro b20 hb20
            refine aw_box2 hb142 hb20 fun E1 hs6 h142 h20 _ _ => ?_
            replace h4 := hs6 _ _ h4
            replace h5 := hs6 _ _ h5
            replace h8 := hs6 _ _ h8
            replace hm := hs6 _ _ hm
            replace h17 := hs6 _ _ h17
            have hx2 := hx.sub hs6
            replace hr := hr.sub hs6
            replace hs := sub_trans hs hs6
            refine aw_sr rfl ?_  -- r30
            simp only [go_sem, reduceIte, Nat.reduceEqDiff, Nat.reduceAdd, Nat.reduceMul, Nat.reduceSub, Nat.reduceLeDiff, Nat.reduceLT, reduceCtorEq]
            refine aw_rg rfl ?_  -- r31
            simp only [go_sem, reduceIte, Nat.reduceEqDiff, Nat.reduceAdd, Nat.reduceMul, Nat.reduceSub, Nat.reduceLeDiff, Nat.reduceLT, reduceCtorEq, h17, h20]
            refine goP_rm hr hs ?_ fun t' H' hr' hs' hg => ?_
            · exact ⟨rfl, rfl, by decide, wid_Val _, wid_one rfl, sca_one rfl, by simp; omega, by simp; omega⟩
            simp only [go_sem, reduceIte, Nat.reduceEqDiff, Nat.reduceAdd, Nat.reduceMul, Nat.reduceSub, Nat.reduceLeDiff, Nat.reduceLT, reduceCtorEq, hg.vars h17, Bool.and_false, happ]
            refine ⟨((F2 m.2.1[j]).2, false, t', hset H' b17 (.vars [.int .i64 5, .int .i64 0, .str m.1, .sl (((m.2.1.take (j + 1)).map fun a => (F2 a).1).map eVal) false t'])), ⟨hr'.hset (hg.vars h17) (fun _ _ e => by cases e), sub_hset_fresh hG17 hs', hset_keep (hg.vars h4) m4, hset_keep (hg.vars h5) m5, hset_keep (hg.vars h8) m8, hset_keep (hg.map hm) mm, hx'.sub (sub_hset_fresh hG17 hs'), hget_hset_self (hg.vars h17), (isEmpty_take_add hj).symm, hall⟩, ?_, sub_rfl⟩
            simp only [go_sem, reduceIte, Nat.reduceEqDiff, Nat.reduceAdd, Nat.reduceMul, Nat.reduceSub, Nat.reduceLeDiff, Nat.reduceLT, reduceCtorEq]
          · intro b20 hb20 b142 hb142
            have nn := (fresh_cons hb142).1
            simp only [go_sem, reduceIte, Nat.reduceEqDiff, Nat.reduceAdd, Nat.reduceMul, Nat.reduceSub, Nat.reduceLeDiff, Nat.reduceLT, reduceCtorEq, firstV, cV]
            refine goQ_on (fun G' hst => hFq G' b142 (hst _ _ (hget_self _ _ _) (fun _ _ e => by cases e)) ((hx.sub (sub_trans (sub_tail hb20) (sub_tail hb142))).stable hst)) ?_
            simp only [go_sem, reduceIte, Nat.reduceEqDiff, Nat.reduceAdd, Nat.reduceMul, Nat.reduceSub, Nat.reduceLeDiff, Nat.reduceLT, reduceCtorEq, firstV, cV, hset, nn, hget_cons, (fun e => nn e.symm : ¬ b20 = b142)]
            refine aw_box2 hb20 (by rw [hget_cons_ne (fun e => nn e.symm)]; exact (fresh_cons hb142).2) fun E1 hs6 h20 h142 _ _ => ?_
            replace h4 := hs6 _ _ h4
            replace h5 := hs6 _ _ h5
            replace h8 := hs6 _ _ h8
            replace hm := hs6 _ _ hm
            replace h17 := hs6 _ _ h17
            have hx2 := hx.sub hs6
            replace hr := hr.sub hs6
            replace hs := sub_trans hs hs6
            refine aw_sr rfl ?_  -- r30
            simp only [go_sem, reduceIte, Nat.reduceEqDiff, Nat.reduceAdd, Nat.reduceMul, Nat.reduceSub, Nat.reduceLeDiff, Nat.reduceLT, reduceCtorEq]
            refine aw_rg rfl ?_  -- r31
            simp only [go_sem, reduceIte, Nat.reduceEqDiff, Nat.reduceAdd, Nat.reduceMul, Nat.reduceSub, Nat.reduceLeDiff, Nat.reduceLT, reduceCtorEq, h17, h20]
            refine goP_rm hr hs ?_ fun t' H' hr' hs' hg => ?_
            · exact ⟨rfl, rfl, by decide, wid_Val _, wid_one rfl, sca_one rfl, by simp; omega, by simp; omega⟩
            simp only [go_sem, reduceIte, Nat.reduceEqDiff, Nat.reduceAdd, Nat.reduceMul, Nat.reduceSub, Nat.reduceLeDiff, Nat.reduceLT, reduceCtorEq, hg.vars h17, Bool.and_false, happ]
            refine ⟨((F2 m.2.1[j]).2, false, t', hset H' b17 (.vars [.int .i64 5, .int .i64 0, .str m.1, .sl (((m.2.1.take (j + 1)).map fun a => (F2 a).1).map eVal) false t'])), ⟨hr'.hset (hg.vars h17) (fun _ _ e => by cases e), sub_hset_fresh hG17 hs', hset_keep (hg.vars h4) m4, hset_keep (hg.vars h5) m5, hset_keep (hg.vars h8) m8, hset_keep (hg.map hm) mm, hx'.sub (sub_hset_fresh hG17 hs'), hget_hset_self (hg.vars h17), (isEmpty_take_add hj).symm, hall⟩, ?_, sub_rfl⟩
            simp only [go_sem, reduceIte, Nat.reduceEqDiff, Nat.reduceAdd, Nat.reduceMul, Nat.reduceSub, Nat.reduceLeDiff, Nat.reduceLT, reduceCtorEq]
      · intro ⟨okv, nl2, t2, H⟩ ⟨hr, hs, h4, h5, h8, hm, hx, h17, hnl, hok⟩
        simp only at hr hs h4 h5 h8 hm hx h17 hnl hok ⊢
        rw [List.take_length] at h17 hnl hok
        refine ⟨okv, ?_, hs, h4, h5, h8, hm, hx, fun q => ?_, fun q => ?_⟩
        · simp only [go_sem, reduceIte, Nat.reduceEqDiff, Nat.reduceAdd, Nat.reduceMul, Nat.reduceSub, Nat.reduceLeDiff, Nat.reduceLT, reduceCtorEq]
        · rw [q] at hok
          have hok := hok.symm
          rw [Bool.and_eq_true, decide_eq_true_eq] at hok
          refine ⟨m.2.1.map fun a => (F2 a).1, t2, ?_, ?_⟩
          · rw [hgs, if_pos hok.1]; unfold allF; rw [if_pos hok.2]
          · rw [h17, hnl, List.isEmpty_map]
        · rw [hgs]
          split
          · rename_i h6
            rw [decide_eq_true h6, Bool.true_and, q] at hok
            unfold allF
            rw [if_neg (by rw [← hok]; simp)]
          · rfl
    intro f' G' ⟨okv, hf, hs, h4, h5, h8, hm, hx, hy, hn⟩
    refine AW.of_fsub hf ?_
    refine aw_sr rfl ?_  -- r33
    simp only [go_sem, reduceIte, Nat.reduceEqDiff, Nat.reduceAdd, Nat.reduceMul, Nat.reduceSub, Nat.reduceLeDiff, Nat.reduceLT, reduceCtorEq]
    refine aw_if rfl (fun h => ?_) (fun h => ?_)
    · obtain ⟨l, tg, hl, h17⟩ := hy h
      refine aw_sr rfl ?_  -- r34
      simp only [go_sem, reduceIte, Nat.reduceEqDiff, Nat.reduceAdd, Nat.reduceMul, Nat.reduceSub, Nat.reduceLeDiff, Nat.reduceLT, reduceCtorEq, h8, h17]
      refine aw_ret ⟨trivial, [.agg [.int .i64 5, .int .i64 0, .str m.1, .sl (l.map eVal) l.isEmpty tg], .bool true], ?_, ?_, sub_hset_fresh hG8 hs⟩
      · simp only [go_sem, reduceIte, Nat.reduceEqDiff, Nat.reduceAdd, Nat.reduceMul, Nat.reduceSub, Nat.reduceLeDiff, Nat.reduceLT, reduceCtorEq, resL, resOf, hget_hset_self h8]
      have hf : dd.2.2.1.find? (fun k => (gsR F2 dd k.1).isSome) = some m := by
        refine List.find?_eq_some_iff_getElem.2 ⟨by rw [hl]; rfl, i, hi, hmi, fun k hk => ?_⟩
        rw [he k (by omega) hk]; rfl
      rw [hf] at hE0
      simp only [hl, Option.getD_some] at hE0
      rw [← hE0]
      exact Vle.tupL (.cons (Vle.aggL (.cons (Vle.refl _) (.cons (Vle.refl _) (.cons (Vle.refl _) (.cons Vle.untag .nil))))) (.cons (Vle.refl _) .nil))
    have hgn := hn h
    refine aw_skip ⟨(G', L ++ [m.1]), ⟨hs, h4, h5, h8, hm, hx, fun s => ⟨fun h => ?_, fun ⟨k, hk, hlt, e⟩ => ?_⟩, fun k hk hlt => ?_⟩, ?_, sub_rfl⟩
    · rcases List.mem_append.1 h with h | h
      · obtain ⟨k, hk, hlt, e⟩ := (hL s).1 h
        exact ⟨k, hk, by omega, e⟩
      · exact ⟨i, hi, by omega, by rw [hmi]; exact (List.mem_singleton.1 h).symm⟩
    · by_cases ek : k = i
      · subst ek; rw [hmi] at e; rw [← e]; simp
      · exact List.mem_append_left _ ((hL s).2 ⟨k, hk, by omega, e⟩)
    · by_cases ek : k = i
      · subst ek; rw [hmi]; exact hgn
      · exact he k hk (by omega)
    · simp only [go_sem, reduceIte, Nat.reduceEqDiff, Nat.reduceAdd, Nat.reduceMul, Nat.reduceSub, Nat.reduceLeDiff, Nat.reduceLT, reduceCtorEq]
  · intro ⟨H, L⟩ ⟨hs, h4, h5, h8, hm, hx, hL, he⟩
    simp only at hs h8 he ⊢
    refine ⟨rfl, hs, h8, ?_⟩
    rw [← hE0, List.find?_eq_none.2]
    intro m hm
    obtain ⟨k, hk, rfl⟩ := List.getElem_of_mem hm
    rw [he k hk hk]
    simp
end Go.Proofs.Ytomjghlaoncpbaa
