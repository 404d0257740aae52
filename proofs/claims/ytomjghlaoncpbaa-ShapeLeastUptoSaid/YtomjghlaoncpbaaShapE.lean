import Derived.Test.YtomjghlaoncpbaaShapD
set_option linter.unusedSimpArgs false
set_option linter.unusedVariables false
namespace Go.Proofs.Ytomjghlaoncpbaa
open Go.Proofs.YtomjghlaoncpbaaV
set_option maxHeartbeats 400000
set_option maxRecDepth 100000
/-- In a heap a pointer leads to a scope. -/
def ScpAt (G : Heap) : Scp → V → Prop
  | [], x => x = .nilp
  | (nm, ts) :: s, x => ∃ b y, x = .ptr b 0 ∧ hget G b = some (.vars [.sl (nm.1.map eNm) nm.2 .no, .sl (ts.1.map eTyp) ts.2 .no, y]) ∧ ScpAt G s y
theorem ScpAt.sub {G H : Heap} (h : Sub G H) : ∀ {s : Scp} {x : V}, ScpAt G s x → ScpAt H s x
  | [], _, k => k
  | (nm, ts) :: s, _, ⟨b, y, h1, h2, h3⟩ => ⟨b, y, h1, h _ _ h2, ScpAt.sub h h3⟩
theorem wid_eNm (xs : List (List UInt8)) : wid 1 (xs.map eNm) := wid_map (g := eNm) (fun _ => rfl) _
theorem a_meant (s : Scp) (t : Typ) (x : V) (G0 G : Heap) (hs0 : Sub G0 G) (hs : OkScp s) (hx : ScpAt G0 s x) : ACall Try.prog 141 [.agg (cTyp t), x] (fun r G' => (∃ y, r = .tup [.agg (cTyp (meantF s t).1), y] ∧ ScpAt G0 (meantF s t).2 y) ∧ G' = G) G := by
  refine ACall.weak (ACall.mono (Q := fun r G' => (∃ y, Vle r (.tup [.agg (cTyp (meantF s t).1), y]) ∧ ScpAt G0 (meantF s t).2 y) ∧ Sub G G') ?_ (fun r G' ⟨⟨y, h1, h2⟩, h3⟩ => ⟨_, G, h1, h3, ⟨y, rfl, h2⟩, rfl⟩))
  refine acall_body (rs := [.cell 4 65, .tmp 5]) Try.func141 rfl rfl Try.ntmps141 (by kernel_rfl) (Nat.le_of_ble_eq_true rfl) ?_
  refine aw_sr rfl ?_
  simp only [go_sem, reduceIte, Nat.reduceEqDiff, Nat.reduceAdd, Nat.reduceMul, Nat.reduceSub, Nat.reduceLeDiff, Nat.reduceLT, reduceCtorEq]
  intro b2 hb2 b4 hb4
  obtain ⟨n42, hb4'⟩ := fresh_cons hb4
  have hz : ∀ y, Vle (.tup [.agg [.int .i64 0, .str [], .sl [] true .full], y]) (.tup [.agg (cTyp zTyp), y]) := fun y =>
    Vle.tupL (.cons (Vle.aggL (.cons (Vle.refl _) (.cons (Vle.refl _) (.cons Vle.untag .nil)))) (.cons (Vle.refl _) .nil))
  refine aw_seq fun K1 hK1 => ?_
  refine aw_block ?_
  refine aw_lph (S := {p : Scp × Typ × V // meantF p.1 p.2.1 = meantF s t ∧ OkScp p.1 ∧ ScpAt G0 p.1 p.2.2}) (fun p => [(1, p.1.2.2), (2, .ptr b2 0), (4, .ptr b4 0)]) (fun p => [(b4, .vars [.int .i64 0, .str [], .sl [] true .full]), (b2, .vars (cTyp p.1.2.1))] ++ G) (fun p => p.1.1.length) ⟨(s, t, x), rfl, hs, hx⟩ ?_ (fun _ _ h => h) ?_
  · simp only [go_sem, reduceIte, Nat.reduceEqDiff, Nat.reduceAdd, Nat.reduceMul, Nat.reduceSub, Nat.reduceLeDiff, Nat.reduceLT, reduceCtorEq]
  intro ⟨⟨s, t, x⟩, h1, h2, h3⟩
  simp only at h1 h2 h3 ⊢
  have hsub : ∀ X Y, Sub G ((b4, X) :: (b2, Y) :: G) := fun _ _ => sub_fresh hb4' (sub_tail hb2)
  refine aw_seq fun K2 hK2 => ?_
  refine aw_sr rfl ?_
  simp only [go_sem, reduceIte, Nat.reduceEqDiff, Nat.reduceAdd, Nat.reduceMul, Nat.reduceSub, Nat.reduceLeDiff, Nat.reduceLT, reduceCtorEq, n42]
  refine aw_if rfl (fun h => ?_) (fun h => ?_)
  · have hk : t.kind = 5 := by simpa using h
    clear h
    refine aw_skip (hK2 _ _ ?_)
    refine aw_block ?_
    refine aw_seq fun K3 hK3 => ?_
    cases s with
    | nil =>
      have h3 : x = .nilp := h3
      subst h3
      refine aw_sr rfl ?_
      simp only [go_sem, reduceIte, Nat.reduceEqDiff, Nat.reduceAdd, Nat.reduceMul, Nat.reduceSub, Nat.reduceLeDiff, Nat.reduceLT, reduceCtorEq]
      refine aw_if rfl (fun h => ?_) (fun h => by cases h)
      refine aw_sr rfl ?_
      simp only [go_sem, reduceIte, Nat.reduceEqDiff, Nat.reduceAdd, Nat.reduceMul, Nat.reduceSub, Nat.reduceLeDiff, Nat.reduceLT, reduceCtorEq]
      refine aw_ret ⟨trivial, [.agg [.int .i64 0, .str [], .sl [] true .full], .nilp], ?_, ⟨.nilp, ?_, ?_⟩, hsub _ _⟩
      · simp only [go_sem, reduceIte, Nat.reduceEqDiff, Nat.reduceAdd, Nat.reduceMul, Nat.reduceSub, Nat.reduceLeDiff, Nat.reduceLT, reduceCtorEq, resL, resOf]
      · rw [← h1, meantF_none (s := []) hk rfl]; exact hz _
      · rw [← h1, meantF_none (s := []) hk rfl]; rfl
    | cons f s =>
      obtain ⟨nm, ts⟩ := f
      obtain ⟨b, y, rfl, hgb0, hy⟩ := h3
      have hgb := hs0 _ _ hgb0
      have hn1 : nm.1.length ≤ 1048576 := (h2 (nm, ts) (by simp)).1
      have hn2 : ts.1.length ≤ 1048576 := (h2 (nm, ts) (by simp)).2.1
      have nb4 : ¬ b4 = b := by intro e; subst e; rw [hgb] at hb4'; cases hb4'
      have nb2 : ¬ b2 = b := by intro e; subst e; rw [hgb] at hb2; cases hb2
      refine aw_sr rfl ?_
      simp only [go_sem, reduceIte, Nat.reduceEqDiff, Nat.reduceAdd, Nat.reduceMul, Nat.reduceSub, Nat.reduceLeDiff, Nat.reduceLT, reduceCtorEq]
      refine aw_if rfl (fun h => by cases h) (fun h => ?_)
      refine aw_skip (hK3 _ _ ?_)
      refine aw_sr rfl ?_
      simp only [go_sem, reduceIte, Nat.reduceEqDiff, Nat.reduceAdd, Nat.reduceMul, Nat.reduceSub, Nat.reduceLeDiff, Nat.reduceLT, reduceCtorEq]
      refine aw_mid (fun f' G' => ∃ i : Nat, ((i = nm.1.length ∧ nm.1.findIdx? (fun x => decide (t.name = x)) = none) ∨ (i < nm.1.length ∧ nm.1.findIdx? (fun x => decide (t.name = x)) = some i)) ∧ FSub [(6, .int .i64 i), (1, .ptr b 0), (2, .ptr b2 0), (4, .ptr b4 0)] f' ∧ G' = [(b4, AObj.vars [.int .i64 0, .str [], .sl [] true .full]), (b2, .vars (cTyp t))] ++ G) ?_ ?_
      · refine aw_block ?_
        refine aw_lph (S := {p : Nat × Heap // p.1 ≤ nm.1.length ∧ (∀ j (hj : j < nm.1.length), j < p.1 → decide (t.name = nm.1[j]) = false) ∧ p.2 = [(b4, AObj.vars [.int .i64 0, .str [], .sl [] true .full]), (b2, .vars (cTyp t))] ++ G}) (fun p => [(6, .int .i64 p.1.1), (1, .ptr b 0), (2, .ptr b2 0), (4, .ptr b4 0)]) (fun p => p.1.2) (fun p => nm.1.length - p.1.1) ⟨(0, _), Nat.zero_le _, fun j _ h => absurd h (by omega), rfl⟩ ?_ (fun _ _ h => h) ?_
        · simp only [go_sem, reduceIte, Nat.reduceEqDiff, Nat.reduceAdd, Nat.reduceMul, Nat.reduceSub, Nat.reduceLeDiff, Nat.reduceLT, reduceCtorEq, Int.natCast_zero]
        intro ⟨⟨i, H⟩, i1, i2, i3⟩
        simp only at i1 i2 i3 ⊢
        subst i3
        refine aw_seq fun K5 hK5 => ?_
        refine aw_srd [(0,true),(1,true),(2,true),(3,true),(4,true),(5,true),(6,true),(7,true),(8,true),(9,true),(10,true),(11,true),(12,true),(13,true),(14,true),(15,true),(16,true),(17,true),(18,true)] mixed rfl (by kernel_rfl) ?_
        by_cases hi : i < nm.1.length
        · have hg : decide ((i : Int) < (nm.1.length : Int)) = true := decide_eq_true (by omega)
          simp only [go_sem, reduceIte, Nat.reduceEqDiff, Nat.reduceAdd, Nat.reduceMul, Nat.reduceSub, Nat.reduceLeDiff, Nat.reduceLT, reduceCtorEq, nb4, nb2, hgb, n42, hg, getD_map hi, eNm]
          refine ⟨fun _ => ⟨by omega, by omega, wid_eNm _⟩, ?_⟩
          refine aw_if rfl (fun h => ?_) (fun h => ?_)
          · refine aw_skip (hK5 _ _ ?_)
            refine aw_block ?_
            refine aw_rg rfl ?_
            have hwi : IntKind.i64.wrap ((i : Int) + 1) = (i : Int) + 1 := wrap64 (by omega) (by omega)
            simp only [go_sem, reduceIte, Nat.reduceEqDiff, Nat.reduceAdd, Nat.reduceMul, Nat.reduceSub, Nat.reduceLeDiff, Nat.reduceLT, reduceCtorEq, hwi]
            have hne : ¬ nm.1[i] = t.name := by simpa using h
            refine ⟨⟨(i + 1, _), by show i + 1 ≤ _; omega, fun j hj hlt => ?_, rfl⟩, by show nm.1.length - (i + 1) < nm.1.length - i; omega, ?_, fun _ _ h => h⟩
            · have hlt : j < i + 1 := hlt
              by_cases e : j = i
              · subst e; exact decide_eq_false fun q => hne q.symm
              · exact i2 j hj (by omega)
            · simp only [go_sem, reduceIte, Nat.reduceEqDiff, Nat.reduceAdd, Nat.reduceMul, Nat.reduceSub, Nat.reduceLeDiff, Nat.reduceLT, reduceCtorEq, Int.natCast_add, Int.natCast_one]
          · have he : nm.1[i] = t.name := by simpa using h
            refine aw_exit ?_
            refine ⟨i, .inr ⟨hi, List.findIdx?_eq_some_iff_getElem.2 ⟨hi, by simp [he], fun j hj => by rw [i2 j (by omega) hj]; simp⟩⟩, ?_, rfl⟩
            exact ⟨rfl, rfl, rfl, rfl⟩
        · have hil : i = nm.1.length := by omega
          subst hil
          have hg : decide ((nm.1.length : Int) < (nm.1.length : Int)) = false := decide_eq_false (by omega)
          have hgd : (nm.1.map eNm).getD nm.1.length [] = [] := by simp
          simp only [go_sem, reduceIte, Nat.reduceEqDiff, Nat.reduceAdd, Nat.reduceMul, Nat.reduceSub, Nat.reduceLeDiff, Nat.reduceLT, reduceCtorEq, nb4, nb2, hgb, n42, hg, hgd, false_implies, not_true_eq_false]
          refine aw_if rfl (fun h => by cases h) (fun h => ?_)
          refine aw_exit ?_
          refine ⟨nm.1.length, .inl ⟨rfl, List.findIdx?_eq_none_iff.2 fun x hx => ?_⟩, ?_, rfl⟩
          · obtain ⟨j, hj, rfl⟩ := List.getElem_of_mem hx
            exact i2 j hj hj
          · exact ⟨rfl, rfl, rfl, rfl⟩
      · intro f' G' ⟨i, hi, hf, hG⟩
        subst hG
        refine AW.of_fsub hf ?_
        refine aw_seq fun K4 hK4 => ?_
        refine aw_sr rfl ?_
        simp only [go_sem, reduceIte, Nat.reduceEqDiff, Nat.reduceAdd, Nat.reduceMul, Nat.reduceSub, Nat.reduceLeDiff, Nat.reduceLT, reduceCtorEq, nb4, nb2, hgb]
        refine aw_if rfl (fun h => ?_) (fun h => ?_)
        · have hm : meantF ((nm, ts) :: s) t = (zTyp, []) := by
            rcases hi with ⟨_, e⟩ | ⟨hl, e⟩
            · exact meantF_none hk e
            · refine meantF_out (s := (nm, ts) :: s) hk e fun (q : i < ts.1.length) => ?_
              simp only [Bool.or_eq_true, decide_eq_true_eq] at h
              omega
          refine aw_sr rfl ?_
          simp only [go_sem, reduceIte, Nat.reduceEqDiff, Nat.reduceAdd, Nat.reduceMul, Nat.reduceSub, Nat.reduceLeDiff, Nat.reduceLT, reduceCtorEq]
          refine aw_ret ⟨trivial, [.agg [.int .i64 0, .str [], .sl [] true .full], .nilp], ?_, ⟨.nilp, ?_, ?_⟩, hsub _ _⟩
          · simp only [go_sem, reduceIte, Nat.reduceEqDiff, Nat.reduceAdd, Nat.reduceMul, Nat.reduceSub, Nat.reduceLeDiff, Nat.reduceLT, reduceCtorEq, resL, resOf]
          · rw [← h1, hm]; exact hz _
          · rw [← h1, hm]; rfl
        · have hh : i < ts.1.length ∧ ¬ i = nm.1.length := by
            simp only [Bool.or_eq_false_iff, decide_eq_false_iff_not] at h
            omega
          obtain ⟨hi2, hi3⟩ := hh
          obtain ⟨hl, e⟩ := hi.resolve_left fun q => hi3 q.1
          obtain ⟨hm, hlen⟩ := meantF_in (s := (nm, ts) :: s) hk e hi2
          refine aw_skip (hK4 _ _ ?_)
          refine aw_rgf [(0,true),(1,true),(2,true),(3,true),(4,true),(5,true),(6,true),(7,true),(8,true),(9,true)] 10 11 [(11,false),(12,true)] [(10,false),(12,true)] mixed rfl (by kernel_rfl) ?_
          simp only [go_sem, reduceIte, Nat.reduceEqDiff, Nat.reduceAdd, Nat.reduceMul, Nat.reduceSub, Nat.reduceLeDiff, Nat.reduceLT, reduceCtorEq, nb4, nb2, hgb, n42, getD_map hi2, eTyp_eq, cTyp]
          refine ⟨⟨by omega, by omega, wid_eTyp _⟩, ?_, ?_⟩
          · exact ⟨⟨(s, ts.1[i], y), hm.symm.trans h1, OkScp.out h2, hy⟩, Nat.lt_succ_self _, ⟨rfl, rfl, rfl⟩, fun _ _ h => h⟩
          · exact ⟨⟨(s, ts.1[i], y), hm.symm.trans h1, OkScp.out h2, hy⟩, Nat.lt_succ_self _, ⟨rfl, rfl, rfl⟩, fun _ _ h => h⟩
  · have h : ¬ t.kind = 5 := by simpa using h
    have hm := meantF_no (s := s) h
    refine aw_exit ?_
    refine hK1 _ _ ?_
    refine aw_sr rfl ?_
    simp only [go_sem, reduceIte, Nat.reduceEqDiff, Nat.reduceAdd, Nat.reduceMul, Nat.reduceSub, Nat.reduceLeDiff, Nat.reduceLT, reduceCtorEq, n42]
    refine aw_ret ⟨trivial, [.agg (cTyp t), x], ?_, ⟨x, ?_, ?_⟩, hsub _ _⟩
    · simp only [go_sem, reduceIte, Nat.reduceEqDiff, Nat.reduceAdd, Nat.reduceMul, Nat.reduceSub, Nat.reduceLeDiff, Nat.reduceLT, reduceCtorEq, resL, resOf]
    · rw [← h1, hm]; exact Vle.refl _
    · rw [← h1, hm]; exact h3
end Go.Proofs.Ytomjghlaoncpbaa
