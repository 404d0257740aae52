/- Part 5 of a proof laid in parts; each part's own comment says what it proves and under which conditions. -/
import Derived.Test.YtclmcpbanaojfaaRw4
import Derived.Test.YtclmcpbanaojfaaRw3
/- Types of two programs that are the same: Same, till nothing turns any more. -/
set_option linter.unusedSimpArgs false
set_option linter.unusedVariables false
namespace Go.Proofs.Ytclmcpbanaojfaa
open Go.Proofs.YtclmcpbanaojfaaV
set_option maxHeartbeats 4000000
set_option maxRecDepth 100000
namespace sm
/-- The boxes of the arguments. -/
structure SF (p q : Prgm) (a b : Typ) (b4 b5 b6 b7 : Nat) (G0 H : Heap) : Prop where
  h4 : hget H b4 = some (.vars (cPrg p))
  h5 : hget H b5 = some (.vars (cPrg q))
  h6 : hget H b6 = some (.vars (cTyp a))
  h7 : hget H b7 = some (.vars (cTyp b))
  sub : Sub G0 H
theorem SF.up {p q : Prgm} {a b : Typ} {b4 b5 b6 b7 : Nat} {G0 H H' : Heap} (h : SF p q a b b4 b5 b6 b7 G0 H) (hs : Sub H H') : SF p q a b b4 b5 b6 b7 G0 H' :=
  ⟨hs _ _ h.h4, hs _ _ h.h5, hs _ _ h.h6, hs _ _ h.h7, sub_trans h.sub hs⟩
theorem SF.fr {p q : Prgm} {a b : Typ} {b4 b5 b6 b7 c : Nat} {G0 H H' : Heap} {o : AObj} (h : SF p q a b b4 b5 b6 b7 G0 H) (hF : Fr c H H') (hc : hget H c = some o) (ho : ∀ cs, o ≠ .vars cs) (hg : hget G0 c = none) : SF p q a b b4 b5 b6 b7 G0 H' := by
  have ne : ∀ {z cs}, hget H z = some (.vars cs) → ¬ z = c := fun {z cs} hz e => by rw [e, hc] at hz; exact ho cs (Option.some.inj hz)
  refine ⟨hF _ _ (ne h.h4) h.h4, hF _ _ (ne h.h5) h.h5, hF _ _ (ne h.h6) h.h6, hF _ _ (ne h.h7) h.h7, fun z o' hz => hF z o' (fun e => ?_) (h.sub _ _ hz)⟩
  rw [e, hg] at hz; cases hz
theorem fr_hset {c : Nat} {H : Heap} {x : AObj} : Fr c H (hset H c x) := Fr.hset
theorem fr_iter {c i : Nat} {H : Heap} {x y : AObj} (hi : hget H i = none) : Fr c H ((i, y) :: hset H c x) := fun z o hn hz => by
  rw [hget_cons_ne (fun e => by rw [← e, hi] at hz; cases hz)]
  exact hset_keep hz hn
theorem mrange {H G1 : Heap} {c i : Nat} {kvs : List (V × V)} {td : List Nat} {o : Option Nat} (h : hget H c = some (.map kvs)) (hi : hget H i = none) (e : ((i, AObj.miter c) :: hset H c (.mapr kvs i td o)) = G1) : hget G1 i = some (.miter c) ∧ hget G1 c = some (.mapr kvs i td o) ∧ Fr c H G1 := by
  subst e
  refine ⟨hget_self _ _ _, ?_, fr_iter hi⟩
  rw [hget_cons_ne (fun e => by rw [e, h] at hi; cases hi)]
  exact hget_hset_self h
/-- What the names are that turned out not to be alike. -/
def NoOk (p q : Prgm) (U : List N) (NO : KV) : Prop := ∀ e ∈ NO, e.2 = true ∧ big p q e.1 = false ∧ e.1 ∈ U
theorem put_mem {n : N} {b : Bool} {e : N × Bool} : ∀ {l : KV}, e ∈ putK l n b → e = (n, b) ∨ e ∈ l
  | [], h => by simp [putK] at h; exact .inl h
  | a :: l, h => by
    simp only [putK] at h
    by_cases h1 : a.1 = n
    · rw [if_pos h1] at h
      rcases List.mem_cons.1 h with h | h
      · exact .inl h
      · exact .inr (List.mem_cons_of_mem _ h)
    · rw [if_neg h1] at h
      rcases List.mem_cons.1 h with h | h
      · exact .inr (by rw [h]; simp)
      · rcases put_mem h with h | h
        · exact .inl h
        · exact .inr (List.mem_cons_of_mem _ h)
theorem NoOk.put {p q : Prgm} {U : List N} {NO : KV} (h : NoOk p q U NO) {n : N} (h1 : big p q n = false) (h2 : n ∈ U) : NoOk p q U (putK NO n true) := fun e he => by
  rcases put_mem he with rfl | he
  · exact ⟨rfl, h1, h2⟩
  · exact h e he
theorem NoOk.tr {p q : Prgm} {U : List N} {NO : KV} (h : NoOk p q U NO) (n : N) : tr NO n = (look NO n).isSome := by
  cases hk : sm.look NO n with
  | none => simp [sm.tr, hk]
  | some v =>
    have := (h _ (look_mem hk)).1
    simp only at this
    rw [sm.tr, hk, this]; rfl
/-- What is between two runs. -/
structure S0 where
  NO : KV
  H : Heap
structure S1 where
  K : KV
  todo : List Nat
  cur : Option Nat
  H : Heap
structure S2 where
  NO : KV
  more : Bool
  todo : List Nat
  cur : Option Nat
  H : Heap
end sm
open sm
theorem q_SameS {p q : Prgm} (hp : o23 p.2.2.2.1) (hq : o23 q.2.2.2.1) {a b : Typ} (oa : OkTyp a) : Quiet Try.prog 13 [.agg (cPrg p), .agg (cPrg q), .agg (cTyp a), .agg (cTyp b)] (.bool (sameF (big p q) [] [] a b)) := by
  have hU1 : ∀ s d, dataF p s = some d → ∀ mk ∈ d.2.2.1, ∀ n ∈ tnms mk.2.1, n ∈ uniN p a := fun s d hd mk hm => uni_d hd hm
  have hU2 := uni_a p a
  generalize uniN p a = U at hU1 hU2
  refine Quiet.weak fun G => ?_
  refine acall_body (rs := [.tmp 8]) Try.func13 rfl rfl Try.ntmps13 (by kernel_rfl) (Nat.le_of_ble_eq_true rfl) ?_
  refine aw_sr rfl ?_  -- r0 @shape.go:64
  simp only [go_sem, reduceIte, Nat.reduceEqDiff, Nat.reduceAdd, Nat.reduceMul, Nat.reduceSub, Nat.reduceLeDiff, Nat.reduceLT, reduceCtorEq]
  intro b4 hb4 b5 hb5 b6 hb6 b7 hb7
  refine aw_box4 hb4 hb5 hb6 hb7 fun B1 hs1 h4 h5 h6 h7 => ?_
  have hSF1 : SF p q a b b4 b5 b6 b7 G B1 := ⟨h4, h5, h6, h7, hs1⟩
  refine aw_sr rfl ?_  -- r1 @shape.go:66
  simp only [go_sem, reduceIte, Nat.reduceEqDiff, Nat.reduceAdd, Nat.reduceMul, Nat.reduceSub, Nat.reduceLeDiff, Nat.reduceLT, reduceCtorEq]
  intro b16 hb16
  have n16 := sub_none hs1 hb16
  refine aw_box1 hb16 fun B2 hs2 h16 => ?_
  replace hSF1 := hSF1.up hs2
  clear h4 h5 h6 h7 hs1 hs2 hb4 hb5 hb6 hb7 hb16
  refine aw_block ?_  -- 0
  refine aw_lph (S := {s : S0 // SF p q a b b4 b5 b6 b7 G s.H ∧ hget s.H b16 = some (.map (s.NO.map kvB)) ∧ NoOk p q U s.NO}) (fun _ => [(4, .ptr b4 0), (5, .ptr b5 0), (6, .ptr b6 0), (7, .ptr b7 0), (9, .map b16)]) (fun s => s.1.H) (fun s => left U s.1.NO) ⟨⟨[], B2⟩, hSF1, h16, fun e he => by cases he⟩ ?_ (fun _ _ h => h) ?_
  · simp only [go_sem, reduceIte, Nat.reduceEqDiff, Nat.reduceAdd, Nat.reduceMul, Nat.reduceSub, Nat.reduceLeDiff, Nat.reduceLT, reduceCtorEq]
  clear hSF1 h16
  clear B2
  intro ⟨⟨NO, H⟩, hSF, h16, hNO⟩
  simp only at hSF h16 hNO ⊢
  have h4 := hSF.h4
  have h5 := hSF.h5
  simp only [e29] at h4 h5
  refine aw_block ?_  -- 1
  refine aw_sr rfl ?_  -- r2 @shape.go:68
  simp only [go_sem, reduceIte, Nat.reduceEqDiff, Nat.reduceAdd, Nat.reduceMul, Nat.reduceSub, Nat.reduceLeDiff, Nat.reduceLT, reduceCtorEq, h4, h5]
  intro b19 hb19 b21 hb21
  have n19 := sub_none hSF.sub hb19
  refine aw_box2 hb19 hb21 fun B3 hs3 h19 h21 _ _ => ?_
  replace hSF := hSF.up hs3
  have n1619 : ¬ b16 = b19 := ne_fresh h16 hb19
  replace h16 := hs3 _ _ h16
  clear h4 h5 hs3 hb19 hb21
  have hw : hget B3 b21 = some (.vars (twoV p q b19)) := h21
  clear h21
  refine aw_seq fun K1 hK1 => ?_
  refine aw_sr rfl ?_  -- r3 @shape.go:69
  simp only [go_sem, reduceIte, Nat.reduceEqDiff, Nat.reduceAdd, Nat.reduceMul, Nat.reduceSub, Nat.reduceLeDiff, Nat.reduceLT, reduceCtorEq, h16]
  intro i1 hi1
  try rw [List.length_map]
  generalize hG1 : ((i1, AObj.miter b16) :: hset B3 b16 _) = B4
  obtain ⟨hi1', hr1, hF1⟩ := mrange h16 hi1 hG1
  clear hG1
  have n1621 : ¬ b21 = b16 := fun e => by rw [e, h16] at hw; cases hw
  have ni1 := sub_none hSF.sub hi1
  replace hSF := hSF.fr hF1 h16 (fun _ e => by cases e) n16
  replace hw := hF1 _ _ n1621 hw
  replace h19 := hF1 _ _ (fun e => n1619 e.symm) h19
  have n121 : ¬ i1 = b21 := fun e => by rw [e, hw] at hi1'; cases hi1'
  have n119 : ¬ i1 = b19 := fun e => by rw [e, h19] at hi1'; cases hi1'
  have n116 : ¬ i1 = b16 := fun e => by rw [e, hr1] at hi1'; cases hi1'
  clear hF1 hi1 h16
  refine aw_block ?_  -- 2
  refine aw_lph (S := {s : S1 // SF p q a b b4 b5 b6 b7 G s.H ∧ hget s.H b21 = some (.vars (twoV p q b19)) ∧ hget s.H b19 = some (.map (s.K.map kvB)) ∧ hget s.H i1 = some (.miter b16) ∧ hget s.H b16 = some (.mapr (NO.map kvB) i1 s.todo s.cur) ∧ (∀ e ∈ s.K, e.2 = false ∧ sm.look NO e.1 ≠ none) ∧ (s.K.map (·.1)).Nodup ∧ ∀ j (h : j < NO.length), j ∉ s.todo → sm.look s.K NO[j].1 = some false}) (fun _ => [(4, .ptr b4 0), (5, .ptr b5 0), (6, .ptr b6 0), (7, .ptr b7 0), (9, .map b16), (10, .ptr b21 0), (23, .ptr i1 0)]) (fun s => s.1.H) (fun s => s.1.todo.length) ⟨⟨[], List.range NO.length, none, B4⟩, hSF, hw, h19, hi1', hr1, fun e he => (by cases he), List.nodup_nil, fun j hj hn => absurd (List.mem_range.2 hj) hn⟩ ?_ (fun _ _ h => h) ?_
  · simp only [go_sem, reduceIte, Nat.reduceEqDiff, Nat.reduceAdd, Nat.reduceMul, Nat.reduceSub, Nat.reduceLeDiff, Nat.reduceLT, reduceCtorEq]
  clear hSF hw h19 hi1' hr1
  clear B3 B4
  intro ⟨⟨K, todo, cur, H⟩, hSF, hw, h19, hi1, hr1, hq1, hq2, hq3⟩
  simp only at hSF hw h19 hi1 hr1 hq1 hq2 hq3 ⊢
  refine aw_sr rfl ?_  -- r4 @shape.go:69
  simp only [go_sem, reduceIte, Nat.reduceEqDiff, Nat.reduceAdd, Nat.reduceMul, Nat.reduceSub, Nat.reduceLeDiff, Nat.reduceLT, reduceCtorEq, hi1, hr1]
  refine goNm_by (fun htd => ?_) (fun j hj hlt => ?_)
  · simp only [go_sem, reduceIte, Nat.reduceEqDiff, Nat.reduceAdd, Nat.reduceMul, Nat.reduceSub, Nat.reduceLeDiff, Nat.reduceLT, reduceCtorEq]
    refine aw_seq fun K2 hK2 => ?_
    refine aw_if rfl (fun h => by cases h) (fun h => ?_)
    refine aw_exit ?_  -- 2
    subst htd
    have hK0 : ∀ n v, sm.look K n = some v → v = false := fun n v hv => (hq1 _ (look_mem hv)).1
    have hK0n : ∀ n, sm.look NO n ≠ none → sm.look K n = some false := fun n hn => by
      cases hk : sm.look NO n with
      | none => exact absurd hk hn
      | some v =>
        obtain ⟨j, hj, e⟩ := List.getElem_of_mem (look_mem hk)
        have := hq3 j hj (by simp)
        rw [e] at this; exact this
    have hInv : Inv p q K := fun n hn => by
      have h1 := (hq1 _ (look_mem hn)).2
      cases hk : sm.look NO n with
      | none => exact absurd hk h1
      | some v => exact (hNO _ (look_mem hk)).2.1
    refine hK1 _ _ ?_
    refine AW.unr hr1 ?_
    have hF2 : Fr b16 H (hset H b16 (.map (NO.map kvB))) := Fr.hset
    have h16 := hget_hset_self (y := AObj.map (NO.map kvB)) hr1
    have hSF2 := hSF.fr hF2 hr1 (fun _ e => by cases e) n16
    have hAt : At p q b21 b19 (hset H b16 (.map (NO.map kvB))) K := ⟨hF2 _ _ n1621 hw, hF2 _ _ (fun e => n1619 e.symm) h19⟩
    generalize hset H b16 (.map (NO.map kvB)) = H2 at hF2 h16 hSF2 hAt
    clear hSF hw h19 hi1 hr1 hF2
    clear H
    have h6 := hSF2.h6
    have h7 := hSF2.h7
    refine aw_sr rfl ?_  -- r7 @shape.go:72
    simp only [go_sem, reduceIte, Nat.reduceEqDiff, Nat.reduceAdd, Nat.reduceMul, Nat.reduceSub, Nat.reduceLeDiff, Nat.reduceLT, reduceCtorEq, h6, h7]
    refine goA_by (same_all hp hq hU1 (left U K) a.sz a b (Nat.le_refl _) oa hU2 K ([], true) ([], true) .full .full H2 (Nat.le_refl _) (by decide) (by decide) hAt) fun v G5 hv => ?_
    obtain ⟨r, K', rfl, hA5, hF5, hS5⟩ := hv
    replace h16 := hF5 _ _ n1619 h16
    have hSF5 := hSF2.fr hF5 hAt.m (fun _ e => by cases e) n19
    have hnd := hS5.nd hq2
    have hI5 := hS5.inv hInv
    clear hSF2 hF5 hAt h6 h7
    simp only [go_sem, reduceIte, Nat.reduceEqDiff, Nat.reduceAdd, Nat.reduceMul, Nat.reduceSub, Nat.reduceLeDiff, Nat.reduceLT, reduceCtorEq]
    refine aw_sr rfl ?_  -- r8 @shape.go:73
    simp only [go_sem, reduceIte, Nat.reduceEqDiff, Nat.reduceAdd, Nat.reduceMul, Nat.reduceSub, Nat.reduceLeDiff, Nat.reduceLT, reduceCtorEq]
    refine aw_seq fun K3 hK3 => ?_
    have hw5 := hA5.w
    have h19 := hA5.m
    simp only [twoV, e29, List.cons_append, List.nil_append] at hw5
    refine aw_sr rfl ?_  -- r9 @shape.go:74
    simp only [go_sem, reduceIte, Nat.reduceEqDiff, Nat.reduceAdd, Nat.reduceMul, Nat.reduceSub, Nat.reduceLeDiff, Nat.reduceLT, reduceCtorEq, hw5, h19]
    intro i2 hi2
    try rw [List.length_map]
    generalize hG2 : ((i2, AObj.miter b19) :: hset G5 b19 _) = G6
    obtain ⟨hi2', hr2, hF6⟩ := mrange h19 hi2 hG2
    clear hG2
    replace h16 := hF6 _ _ n1619 h16
    replace hSF5 := hSF5.fr hF6 h19 (fun _ e => by cases e) n19
    clear hw5 h19 hA5 hi2 hF6
    refine aw_block ?_  -- 4
    refine aw_lph (S := {s : S2 // SF p q a b b4 b5 b6 b7 G s.H ∧ hget s.H i2 = some (.miter b19) ∧ hget s.H b19 = some (.mapr (K'.map kvB) i2 s.todo s.cur) ∧ hget s.H b16 = some (.map (s.NO.map kvB)) ∧ NoOk p q U s.NO ∧ left U s.NO ≤ left U NO ∧ (s.more = true → left U s.NO < left U NO) ∧ (s.more = false → s.NO = NO ∧ ∀ j (h : j < K'.length), j ∉ s.todo → K'[j].2 = false → sm.look NO K'[j].1 ≠ none)}) (fun s => [(4, .ptr b4 0), (5, .ptr b5 0), (6, .ptr b6 0), (7, .ptr b7 0), (9, .map b16), (12, .bool r), (13, .bool s.1.more), (41, .ptr i2 0)]) (fun s => s.1.H) (fun s => s.1.todo.length) ⟨⟨NO, false, List.range K'.length, none, G6⟩, hSF5, hi2', hr2, h16, hNO, Nat.le_refl _, fun e => (by cases e), fun _ => ⟨rfl, fun j hj hn => absurd (List.mem_range.2 hj) hn⟩⟩ ?_ (fun _ _ h => h) ?_
    · simp only [go_sem, reduceIte, Nat.reduceEqDiff, Nat.reduceAdd, Nat.reduceMul, Nat.reduceSub, Nat.reduceLeDiff, Nat.reduceLT, reduceCtorEq]
    clear hSF5 hi2' hr2 h16
    clear G5 G6 H2
    intro ⟨⟨NN, more, todo, cur2, H⟩, hSF, hi2, hr2, h16, hNN, hl1, hl2, hl3⟩
    simp only at hSF hi2 hr2 h16 hNN hl1 hl2 hl3 ⊢
    refine aw_sr rfl ?_  -- r10 @shape.go:74
    simp only [go_sem, reduceIte, Nat.reduceEqDiff, Nat.reduceAdd, Nat.reduceMul, Nat.reduceSub, Nat.reduceLeDiff, Nat.reduceLT, reduceCtorEq, hi2, hr2]
    refine goNm_by (fun htd => ?_) (fun j hj hlt => ?_)
    · simp only [go_sem, reduceIte, Nat.reduceEqDiff, Nat.reduceAdd, Nat.reduceMul, Nat.reduceSub, Nat.reduceLeDiff, Nat.reduceLT, reduceCtorEq]
      refine aw_seq fun K4 hK4 => ?_
      refine aw_if rfl (fun h => by cases h) (fun h => ?_)
      refine aw_exit ?_  -- 4
      subst htd
      refine hK3 _ _ ?_
      refine aw_sr rfl ?_  -- r14 @shape.go:79
      simp only [go_sem, reduceIte, Nat.reduceEqDiff, Nat.reduceAdd, Nat.reduceMul, Nat.reduceSub, Nat.reduceLeDiff, Nat.reduceLT, reduceCtorEq]
      cases more with
      | false =>
        refine aw_if rfl (fun h => ?_) (fun h => by cases h)
        refine aw_sr rfl ?_  -- r15 @shape.go:80
        simp only [go_sem, reduceIte, Nat.reduceEqDiff, Nat.reduceAdd, Nat.reduceMul, Nat.reduceSub, Nat.reduceLeDiff, Nat.reduceLT, reduceCtorEq]
        obtain ⟨_, hl4⟩ := hl3 rfl
        have hans := hS5.all hInv hK0 (fun S T h => same_mono h) (fun n hn => by
          obtain ⟨j, hj, e⟩ := List.getElem_of_mem (look_mem hn)
          refine hK0n n ?_
          have := hl4 j hj (by simp) (by rw [e])
          rw [e] at this; exact this)
        refine aw_ret ⟨trivial, _, rfl, ?_, hSF.sub⟩
        rw [hans]; exact Vle.refl _
      | true =>
        refine aw_if rfl (fun h => by cases h) (fun h => ?_)
        refine aw_skip ⟨⟨⟨NN, H⟩, hSF, h16, hNN⟩, hl2 rfl, ?_, sub_rfl⟩
        simp only [go_sem, reduceIte, Nat.reduceEqDiff, Nat.reduceAdd, Nat.reduceMul, Nat.reduceSub, Nat.reduceLeDiff, Nat.reduceLT, reduceCtorEq]
    · have hj' : j < K'.length := by simpa using hlt
      simp only [go_sem, reduceIte, Nat.reduceEqDiff, Nat.reduceAdd, Nat.reduceMul, Nat.reduceSub, Nat.reduceLeDiff, Nat.reduceLT, reduceCtorEq, List.getElem_map]
      refine aw_seq fun K4 hK4 => ?_
      refine aw_if rfl (fun h => ?_) (fun h => by cases h)
      refine aw_skip (hK4 _ _ ?_)
      have hF7 : Fr b19 H (hset H b19 (.mapr (K'.map kvB) i2 (todo.erase j) (some j))) := Fr.hset
      have hr7 := hget_hset_self (y := AObj.mapr (K'.map kvB) i2 (todo.erase j) (some j)) hr2
      have n219 : ¬ i2 = b19 := fun e => by rw [e, hr2] at hi2; cases hi2
      replace hSF := hSF.fr hF7 hr2 (fun _ e => by cases e) n19
      replace hi2 := hF7 _ _ n219 hi2
      replace h16 := hF7 _ _ n1619 h16
      generalize hset H b19 (.mapr (K'.map kvB) i2 (todo.erase j) (some j)) = H7 at hF7 hr7 hSF hi2 h16
      clear hF7 hr2
      have hgj : (K'.map kvB)[j]? = some (.str K'[j].1, .bool K'[j].2) := by rw [List.getElem?_map, List.getElem?_eq_getElem hj']; rfl
      have hlen : (todo.erase j).length < todo.length := by
        have := List.length_pos_of_mem hj
        rw [List.length_erase_of_mem hj]; omega
      have hout : ∀ i, i ∉ todo.erase j → i = j ∨ i ∉ todo := fun i hi => by
        by_cases e : i = j
        · exact .inl e
        · exact .inr fun h => hi ((List.mem_erase_of_ne e).2 h)
      have hmem : K'[j] ∈ K' := List.getElem_mem hj'
      have hlkj := look_of hnd hmem
      have hlk := look_B K'[j].1 NN 0
      rw [hNN.tr] at hlk
      refine aw_block ?_  -- 5
      refine aw_sr rfl ?_  -- r11 @shape.go:74
      simp only [go_sem, reduceIte, Nat.reduceEqDiff, Nat.reduceAdd, Nat.reduceMul, Nat.reduceSub, Nat.reduceLeDiff, Nat.reduceLT, reduceCtorEq, hi2, hr7, hgj]
      refine aw_sr rfl ?_  -- r12 @shape.go:75
      cases hv : K'[j].2 with
      | true =>
        simp only [go_sem, reduceIte, Nat.reduceEqDiff, Nat.reduceAdd, Nat.reduceMul, Nat.reduceSub, Nat.reduceLeDiff, Nat.reduceLT, reduceCtorEq, hv, h16, true_imp_iff, false_imp_iff, Bool.false_eq_true, Bool.not_true]
        repeat' first
          | (refine sm.goG_off fun v => ?_
             simp only [go_sem, reduceIte, Nat.reduceEqDiff, Nat.reduceAdd, Nat.reduceMul, Nat.reduceSub, Nat.reduceLeDiff, Nat.reduceLT, reduceCtorEq, hv, h16, true_imp_iff, false_imp_iff, Bool.false_eq_true, Bool.not_true])
        refine aw_if rfl (fun h => by cases h) (fun h => ?_)
        refine aw_skip ⟨⟨⟨NN, more, todo.erase j, some j, H7⟩, hSF, hi2, hr7, h16, hNN, hl1, hl2, fun hm => ⟨(hl3 hm).1, fun i hi hn hv2 => ?_⟩⟩, hlen, ?_, sub_rfl⟩
        · rcases hout i hn with rfl | hn
          · rw [hv] at hv2; cases hv2
          · exact (hl3 hm).2 i hi hn hv2
        · simp only [go_sem, reduceIte, Nat.reduceEqDiff, Nat.reduceAdd, Nat.reduceMul, Nat.reduceSub, Nat.reduceLeDiff, Nat.reduceLT, reduceCtorEq]
      | false =>
        simp only [go_sem, reduceIte, Nat.reduceEqDiff, Nat.reduceAdd, Nat.reduceMul, Nat.reduceSub, Nat.reduceLeDiff, Nat.reduceLT, reduceCtorEq, hv, h16, ↓hlk, true_imp_iff, Bool.not_false]
        cases hs : (sm.look NN K'[j].1).isSome with
        | true =>
          refine aw_if rfl (fun h => by cases h) (fun h => ?_)
          refine aw_skip ⟨⟨⟨NN, more, todo.erase j, some j, H7⟩, hSF, hi2, hr7, h16, hNN, hl1, hl2, fun hm => ⟨(hl3 hm).1, fun i hi hn hv2 => ?_⟩⟩, hlen, ?_, sub_rfl⟩
          · rcases hout i hn with rfl | hn
            · rw [(hl3 hm).1] at hs
              intro e; rw [e] at hs; cases hs
            · exact (hl3 hm).2 i hi hn hv2
          · simp only [go_sem, reduceIte, Nat.reduceEqDiff, Nat.reduceAdd, Nat.reduceMul, Nat.reduceSub, Nat.reduceLeDiff, Nat.reduceLT, reduceCtorEq]
        | false =>
          have hnone : sm.look NN K'[j].1 = none := by
            cases hk : sm.look NN K'[j].1 with
            | none => rfl
            | some v => rw [hk] at hs; cases hs
          have hbig : big p q K'[j].1 = false := hI5 _ (by rw [hlkj, hv])
          have hUj : K'[j].1 ∈ U := by
            cases hk : sm.look K K'[j].1 with
            | none => exact hS5.keys _ hk (by rw [hlkj]; simp)
            | some v =>
              have := (hq1 _ (look_mem hk)).2
              cases hk2 : sm.look NO K'[j].1 with
              | none => exact absurd hk2 this
              | some v2 => exact (hNO _ (look_mem hk2)).2.2
          have hlt2 := left_put (b := true) hUj hnone
          obtain ⟨r8, hf8, hp8⟩ := put_B K'[j].1 true NN
          refine aw_if rfl (fun h => ?_) (fun h => by cases h)
          refine aw_rg rfl ?_  -- r13 @shape.go:76
          simp only [go_sem, reduceIte, Nat.reduceEqDiff, Nat.reduceAdd, Nat.reduceMul, Nat.reduceSub, Nat.reduceLeDiff, Nat.reduceLT, reduceCtorEq, h16, hf8, hp8]
          have hF8 : Fr b16 H7 (hset H7 b16 (.map ((putK NN K'[j].1 true).map kvB))) := Fr.hset
          have n216 : ¬ i2 = b16 := fun e => by rw [e, h16] at hi2; cases hi2
          refine ⟨⟨⟨putK NN K'[j].1 true, true, todo.erase j, some j, _⟩, hSF.fr hF8 h16 (fun _ e => by cases e) n16, hF8 _ _ n216 hi2, hF8 _ _ (fun e => n1619 e.symm) hr7, hget_hset_self h16, hNN.put hbig hUj, (by simp only; omega), fun _ => (by simp only; omega), fun e => (by cases e)⟩, hlen, ?_, sub_rfl⟩
          simp only [go_sem, reduceIte, Nat.reduceEqDiff, Nat.reduceAdd, Nat.reduceMul, Nat.reduceSub, Nat.reduceLeDiff, Nat.reduceLT, reduceCtorEq]
  have hj' : j < NO.length := by simpa using hlt
  simp only [go_sem, reduceIte, Nat.reduceEqDiff, Nat.reduceAdd, Nat.reduceMul, Nat.reduceSub, Nat.reduceLeDiff, Nat.reduceLT, reduceCtorEq, List.getElem_map]
  refine aw_seq fun K2 hK2 => ?_
  refine aw_if rfl (fun h => ?_) (fun h => by cases h)
  refine aw_skip (hK2 _ _ ?_)
  have hF3 : Fr b16 H (hset H b16 (.mapr (NO.map kvB) i1 (todo.erase j) (some j))) := Fr.hset
  have hr3 := hget_hset_self (y := AObj.mapr (NO.map kvB) i1 (todo.erase j) (some j)) hr1
  replace hSF := hSF.fr hF3 hr1 (fun _ e => by cases e) n16
  replace hw := hF3 _ _ n1621 hw
  replace h19 := hF3 _ _ (fun e => n1619 e.symm) h19
  replace hi1 := hF3 _ _ n116 hi1
  generalize hset H b16 (.mapr (NO.map kvB) i1 (todo.erase j) (some j)) = H3 at hF3 hr3 hSF hw h19 hi1
  clear hF3 hr1
  have hgj : (NO.map kvB)[j]? = some (.str NO[j].1, .bool NO[j].2) := by rw [List.getElem?_map, List.getElem?_eq_getElem hj']; rfl
  have hlen : (todo.erase j).length < todo.length := by
    have := List.length_pos_of_mem hj
    rw [List.length_erase_of_mem hj]; omega
  have hout : ∀ i, i ∉ todo.erase j → i = j ∨ i ∉ todo := fun i hi => by
    by_cases e : i = j
    · exact .inl e
    · exact .inr fun h => hi ((List.mem_erase_of_ne e).2 h)
  have hmem : NO[j] ∈ NO := List.getElem_mem hj'
  have hin : sm.look NO NO[j].1 ≠ none := look_some (List.mem_map_of_mem hmem)
  refine aw_block ?_  -- 3
  refine aw_sr rfl ?_  -- r5 @shape.go:69
  simp only [go_sem, reduceIte, Nat.reduceEqDiff, Nat.reduceAdd, Nat.reduceMul, Nat.reduceSub, Nat.reduceLeDiff, Nat.reduceLT, reduceCtorEq, hi1, hr3, hgj]
  have hw3 := hw
  simp only [twoV, e29, List.cons_append, List.nil_append] at hw3
  obtain ⟨r4, hf4, hp4⟩ := put_B NO[j].1 false K
  refine aw_rg rfl ?_  -- r6 @shape.go:70
  simp only [go_sem, reduceIte, Nat.reduceEqDiff, Nat.reduceAdd, Nat.reduceMul, Nat.reduceSub, Nat.reduceLeDiff, Nat.reduceLT, reduceCtorEq, hw3, h19, hf4, hp4]
  have hF4 : Fr b19 H3 (hset H3 b19 (.map ((putK K NO[j].1 false).map kvB))) := Fr.hset
  have n2119 : ¬ b21 = b19 := fun e => by rw [e, h19] at hw; cases hw
  refine ⟨⟨⟨putK K NO[j].1 false, todo.erase j, some j, _⟩, hSF.fr hF4 h19 (fun _ e => by cases e) n19, hF4 _ _ n2119 hw, hget_hset_self h19, hF4 _ _ n119 hi1, hF4 _ _ n1619 hr3, fun e he => ?_, nodup_put _ _ hq2, fun i hi hn => ?_⟩, hlen, ?_, sub_rfl⟩
  · rcases put_mem he with rfl | he
    · exact ⟨rfl, hin⟩
    · exact hq1 e he
  · rw [look_put]
    by_cases e : NO[i].1 = NO[j].1
    · rw [if_pos e]
    · rw [if_neg e]
      rcases hout i hn with rfl | hn
      · exact absurd rfl e
      · exact hq3 i hi hn
  · simp only [go_sem, reduceIte, Nat.reduceEqDiff, Nat.reduceAdd, Nat.reduceMul, Nat.reduceSub, Nat.reduceLeDiff, Nat.reduceLT, reduceCtorEq]
end Go.Proofs.Ytclmcpbanaojfaa

/- Types of two programs that are the same: the reference's comparison of lists of types. -/
set_option linter.unusedSimpArgs false
set_option linter.unusedVariables false
namespace Go.Proofs.Ytclmcpbanaojfaa
open Go.Proofs.YtclmcpbanaojfaaV
set_option maxHeartbeats 4000000
set_option maxRecDepth 100000
namespace sm
/-- A map, whether it is walked or not. -/
def MapO (K : KV) (o : AObj) : Prop := o = .map (K.map kvB) ∨ ∃ r t c, o = .mapr (K.map kvB) r t c
theorem ixN_lt {l : List N} {s : N} {k : Nat} (hk : k < l.length) (h : l[k] = s) (hb : ∀ j (hj : j < k), ¬ l[j]'(Nat.lt_trans hj hk) = s) : ixN l s = (k : Int) := by
  rw [ixN]
  have : l.findIdx? (fun x => decide (s = x)) = some k := by
    rw [List.findIdx?_eq_some_iff_getElem]
    exact ⟨hk, by simpa using h.symm, fun j hj => by simpa using fun e => hb j hj e.symm⟩
  rw [this]; rfl
theorem ixN_no {l : List N} {s : N} (h : ∀ j (hj : j < l.length), ¬ l[j] = s) : ixN l s = -1 := by
  rw [ixN]
  have : l.findIdx? (fun x => decide (s = x)) = none := by
    rw [List.findIdx?_eq_none_iff]
    intro x hx
    obtain ⟨j, hj, e⟩ := List.getElem_of_mem hx
    have := h j hj
    rw [e] at this
    simpa using fun q => this q.symm
  rw [this]; rfl
/-- Where the reference stops. -/
def Stop (l : List N) (s : N) (k : Nat) : Prop := k ≤ l.length ∧ (∀ j (hj : j < l.length), j < k → ¬ l[j] = s) ∧ (∀ h : k < l.length, l[k] = s)
theorem Stop.ix {l : List N} {s : N} {k : Nat} (h : Stop l s k) : (k < l.length ∧ ixN l s = (k : Int)) ∨ (k = l.length ∧ ixN l s = -1) := by
  obtain ⟨h1, h2, h3⟩ := h
  by_cases hk : k < l.length
  · exact .inl ⟨hk, ixN_lt hk (h3 hk) fun j hj => h2 j (by omega) hj⟩
  · have : k = l.length := by omega
    exact .inr ⟨this, ixN_no fun j hj => h2 j hj (by omega)⟩
theorem stop_leaf {x y : List N} {s t : N} {k n : Nat} (hl : x.length = y.length) (hx : Stop x s k) (hy : Stop y t n) (al : Al) : leafF al x y 5 s t = !(decide ((k : Int) = (x.length : Int)) || decide (¬ (k : Int) = (n : Int))) := by
  rw [leafF, if_pos rfl]
  rcases hx.ix with ⟨h1, h2⟩ | ⟨h1, h2⟩ <;> rcases hy.ix with ⟨g1, g2⟩ | ⟨g1, g2⟩
  · rw [h2, g2, decide_eq_true (show (k : Int) ≥ 0 by omega), decide_eq_false (show ¬ (k : Int) = (x.length : Int) by omega)]
    by_cases e : (k : Int) = (n : Int)
    · simp [e]
    · simp [e]
  · rw [h2, g2, decide_eq_true (show (k : Int) ≥ 0 by omega), decide_eq_false (show ¬ (k : Int) = (x.length : Int) by omega), decide_eq_false (show ¬ (k : Int) = -1 by omega), decide_eq_true (show ¬ (k : Int) = (n : Int) by omega)]; rfl
  · rw [h2, decide_eq_false (show ¬ (-1 : Int) ≥ 0 by omega), decide_eq_true (show (k : Int) = (x.length : Int) by omega)]; rfl
  · rw [h2, decide_eq_false (show ¬ (-1 : Int) ≥ 0 by omega), decide_eq_true (show (k : Int) = (x.length : Int) by omega)]; rfl
theorem hset_cons (k b : Nat) (u x : AObj) (G : Heap) : hset ((k, u) :: G) b x = if k = b then (k, x) :: G else (k, u) :: hset G b x := rfl
theorem wid_eNm' (l : List N) : wid 1 (l.map eNm) := wid_map (g := eNm) (fun _ => rfl) _
end sm
open sm
theorem q_typesAlike {m : Nat} {o : AObj} {K : KV} (ho : MapO K o) : ∀ (n : Nat) (us vs : List Typ) (x y : Nms) (n1 n2 : Bool) (t1 t2 tx ty : Tag), tszs us ≤ n → (∀ a ∈ us, OkTyp a) → us.length ≤ bulk → x.1.length ≤ bulk → x.1.length = y.1.length →
    QuietOn Try.prog [(m, o)] 93 [.sl (us.map eTyp) n1 t1, .sl (vs.map eTyp) n2 t2, .sl (x.1.map eNm) x.2 tx, .sl (y.1.map eNm) y.2 ty, .map m] (.bool (sameFs (tr K) x.1 y.1 us vs)) := by
  intro n
  induction n using Nat.strongRecOn with
  | _ n ih =>
  intro us vs x y n1 n2 t1 t2 tx ty hn hok hul hxl hxy
  have hul' : us.length ≤ 1048576 := hul
  have hxl' : x.1.length ≤ 1048576 := hxl
  refine QuietOn.weak fun G hG => ?_
  have hm := hG _ _ (hget_self _ _ _)
  refine acall_body (rs := [.tmp 10]) Try.func93 rfl rfl Try.ntmps93 (by kernel_rfl) (Nat.le_of_ble_eq_true rfl) ?_
  refine aw_sr rfl ?_  -- r0 @picks.go:296
  simp only [go_sem, reduceIte, Nat.reduceEqDiff, Nat.reduceAdd, Nat.reduceMul, Nat.reduceSub, Nat.reduceLeDiff, Nat.reduceLT, reduceCtorEq]
  refine aw_seq fun K13 hK13 => ?_
  refine aw_sr rfl ?_  -- r1 @picks.go:297
  simp only [go_sem, reduceIte, Nat.reduceEqDiff, Nat.reduceAdd, Nat.reduceMul, Nat.reduceSub, Nat.reduceLeDiff, Nat.reduceLT, reduceCtorEq]
  refine aw_if rfl (fun h => ?_) (fun h => ?_)
  · have h : ¬ us.length = vs.length := by simpa [Int.natCast_inj] using h
    refine aw_sr rfl ?_  -- r2 @picks.go:298
    simp only [go_sem, reduceIte, Nat.reduceEqDiff, Nat.reduceAdd, Nat.reduceMul, Nat.reduceSub, Nat.reduceLeDiff, Nat.reduceLT, reduceCtorEq]
    refine aw_ret ⟨trivial, _, rfl, ?_, sub_rfl⟩
    rw [sameFs_len h]; exact Vle.refl _
  have hl : us.length = vs.length := by simpa [Int.natCast_inj] using h
  refine aw_skip (hK13 _ _ ?_)
  refine aw_seq fun K14 hK14 => ?_
  refine aw_sr rfl ?_  -- r3 @picks.go:300
  simp only [go_sem, reduceIte, Nat.reduceEqDiff, Nat.reduceAdd, Nat.reduceMul, Nat.reduceSub, Nat.reduceLeDiff, Nat.reduceLT, reduceCtorEq]
  refine aw_range us.length (S := Unit) (fun i _ => [(0, .sl (us.map eTyp) n1 t1), (1, .sl (vs.map eTyp) n2 t2), (2, .sl (x.1.map eNm) x.2 tx), (3, .sl (y.1.map eNm) y.2 ty), (4, .map m)]) (fun _ _ => G) (fun i _ => sameFs (tr K) x.1 y.1 (us.take i) (vs.take i) = true) () (by omega) ?_ (fun _ _ h => h) rfl rfl (fun _ _ => rfl) ?_ ?_ (by decide)
  · simp only [go_sem, reduceIte, Nat.reduceEqDiff, Nat.reduceAdd, Nat.reduceMul, Nat.reduceSub, Nat.reduceLeDiff, Nat.reduceLT, reduceCtorEq, Int.natCast_zero]
  · intro i _ hi he
    have hi2 : i < vs.length := hl ▸ hi
    have hnx := sameFs_take (al := tr K) (x := x.1) (y := y.1) hi hi2
    rw [he, Bool.true_and] at hnx
    have hfalse := sameFs_false (al := tr K) (x := x.1) (y := y.1) hi hi2
    have hmem : us[i] ∈ us := List.getElem_mem hi
    have hsz := tszs_mem hmem
    have hoka := hok _ hmem
    refine aw_sr rfl ?_  -- r5 @picks.go:300
    simp only [go_sem, reduceIte, Nat.reduceEqDiff, Nat.reduceAdd, Nat.reduceMul, Nat.reduceSub, Nat.reduceLeDiff, Nat.reduceLT, reduceCtorEq]
    refine aw_mid (fun f' G' => ∃ b12 b13, FSub [(0, .sl (us.map eTyp) n1 t1), (1, .sl (vs.map eTyp) n2 t2), (2, .sl (x.1.map eNm) x.2 tx), (3, .sl (y.1.map eNm) y.2 ty), (4, .map m), (12, .ptr b12 0), (13, .ptr b13 0), (22, .int .i64 ((us.length : Nat) : Int)), (23, .int .i64 ((i : Nat) : Int))] f' ∧ Sub G G' ∧ hget G' b12 = some (.vars (cTyp us[i])) ∧ hget G' b13 = some (.vars (cTyp vs[i]))) ?_ ?_
    · refine aw_rgt [(0,true),(1,true),(2,true),(3,true),(4,true),(5,true),(6,true),(7,false),(8,false),(9,false),(10,false),(11,false)]
        (.fork3 [(0,true),(1,true),(2,true),(3,true),(4,true),(5,true),(6,true)] 7 8 9 (.fork2 [] 8 9 (.leaf [(9,false),(10,false),(11,false)]) (.leaf [(8,false),(10,false),(11,false)])) (.fork2 [] 7 9 (.leaf [(9,false),(10,false),(11,false)]) (.fork2 [] 7 10 (.leaf [(10,false),(11,false)]) (.leaf [(7,false),(11,false)]))) (.fork2 [] 7 8 (.leaf [(8,false),(10,false),(11,false)]) (.fork2 [] 7 10 (.leaf [(10,false),(11,false)]) (.leaf [(7,false),(11,false)])))) mixed rfl (by kernel_rfl) ?_  -- r6 @picks.go:301
      have hw1 := wid_eTyp us
      have hw2 := wid_eTyp vs
      have q1 : 0 ≤ (i : Int) ∧ (i : Int) < (us.length : Int) := ⟨by omega, by omega⟩
      have q2 : 0 ≤ (i : Int) ∧ (i : Int) < (vs.length : Int) := ⟨by omega, by omega⟩
      simp only [go_sem, reduceIte, Nat.reduceEqDiff, Nat.reduceAdd, Nat.reduceMul, Nat.reduceSub, Nat.reduceLeDiff, Nat.reduceLT, reduceCtorEq, goTr, getD_map hi, getD_map hi2, eTyp_eq, cTyp]
      repeat' first
        | exact hw1
        | exact hw2
        | omega
        | (intro bq hbq
           obtain ⟨n3, hbq'⟩ := fresh_cons hbq
           have n3' := fun e => n3 (Eq.symm e)
           simp only [go_sem, reduceIte, Nat.reduceEqDiff, Nat.reduceAdd, Nat.reduceMul, Nat.reduceSub, Nat.reduceLeDiff, Nat.reduceLT, reduceCtorEq, goTr, getD_map hi, getD_map hi2, eTyp_eq, cTyp, hget_cons, sm.hset_cons, n3, n3'])
        | intro bp hbp
        | (refine ⟨_, _, ⟨rfl, rfl, rfl, rfl, rfl, rfl, rfl, rfl, rfl⟩, sub_fresh hbq' (sub_tail hbp), ?_, ?_⟩ <;> simp [hget_cons, n3, n3'])
        | refine And.intro ?_ ?_
    intro f' G1 ⟨b12, b13, hf, hs1, h12, h13⟩
    refine AW.of_fsub hf ?_
    clear hf
    have hm1 := hs1 _ _ hm
    generalize us[i] = a at hnx hfalse hsz hoka h12
    generalize vs[i] = b at hnx hfalse h13
    have hsa := Typ.sz_eq a
    have hIH := ih (tszs a.args) (by omega) a.args b.args x y a.nl b.nl .no .no tx ty (Nat.le_refl _) (fun c hc => hoka.arg hc) hoka.len hxl hxy
    rw [sameF_eq] at hnx hfalse
    refine aw_seq fun K15 hK15 => ?_
    refine aw_sr rfl ?_  -- r7 @picks.go:302
    simp only [go_sem, reduceIte, Nat.reduceEqDiff, Nat.reduceAdd, Nat.reduceMul, Nat.reduceSub, Nat.reduceLeDiff, Nat.reduceLT, reduceCtorEq, h12, h13]
    refine goH_on (fun hg => hIH) (sub_one hm1) ?_
    simp only [go_sem, reduceIte, Nat.reduceEqDiff, Nat.reduceAdd, Nat.reduceMul, Nat.reduceSub, Nat.reduceLeDiff, Nat.reduceLT, reduceCtorEq]
    refine aw_if rfl (fun h => ?_) (fun h => ?_)
    · refine aw_sr rfl ?_  -- r8 @picks.go:303
      simp only [go_sem, reduceIte, Nat.reduceEqDiff, Nat.reduceAdd, Nat.reduceMul, Nat.reduceSub, Nat.reduceLeDiff, Nat.reduceLT, reduceCtorEq]
      refine aw_ret ⟨trivial, _, rfl, ?_, hs1⟩
      rw [hfalse ?_]
      · exact Vle.refl _
      · by_cases hk : a.kind = b.kind
        · by_cases h7 : a.kind = 7
          · simp [h7]
          · have : sameFs (tr K) x.1 y.1 a.args b.args = false := by simpa [hk, (show ¬ b.kind = 7 from hk ▸ h7)] using h
            rw [this, Bool.and_false]; rfl
        · rw [decide_eq_false hk]; rfl
    have hhead : decide (a.kind = b.kind) = true ∧ decide (a.kind = 7) = false ∧ sameFs (tr K) x.1 y.1 a.args b.args = true := by
      by_cases hk : a.kind = b.kind
      · by_cases h7 : a.kind = 7
        · rw [hk] at h7; simp [hk, h7] at h
        · have h7' : ¬ b.kind = 7 := hk ▸ h7
          exact ⟨decide_eq_true hk, decide_eq_false h7, by simpa [hk, h7'] using h⟩
      · simp [hk] at h
    rw [hhead.1, hhead.2.1, hhead.2.2] at hnx hfalse
    simp only [Bool.not_false, Bool.and_true, Bool.true_and] at hnx hfalse
    refine aw_skip (hK15 _ _ ?_)
    refine aw_sr rfl ?_  -- r9 @picks.go:305
    simp only [go_sem, reduceIte, Nat.reduceEqDiff, Nat.reduceAdd, Nat.reduceMul, Nat.reduceSub, Nat.reduceLeDiff, Nat.reduceLT, reduceCtorEq, h12]
    refine aw_block ?_  -- 2
    refine aw_chain rfl rfl rfl rfl rfl ?_  -- t56 is one of [5]
    refine aw_if rfl (fun h => ?_) (fun h => ?_)
    · have h5 : a.kind = 5 := by simpa using h
      rw [h5] at hnx hfalse
      refine aw_sr rfl ?_  -- r13 @picks.go:307
      simp only [go_sem, reduceIte, Nat.reduceEqDiff, Nat.reduceAdd, Nat.reduceMul, Nat.reduceSub, Nat.reduceLeDiff, Nat.reduceLT, reduceCtorEq]
      refine aw_mid (fun f' G' => ∃ k, k ≤ x.1.length ∧ Stop x.1 a.name k ∧ FSub [(0, .sl (us.map eTyp) n1 t1), (1, .sl (vs.map eTyp) n2 t2), (2, .sl (x.1.map eNm) x.2 tx), (3, .sl (y.1.map eNm) y.2 ty), (4, .map m), (13, .ptr b13 0), (14, .int .i64 ((k : Nat) : Int)), (22, .int .i64 ((us.length : Nat) : Int)), (23, .int .i64 ((i : Nat) : Int))] f' ∧ G' = G1) ?_ ?_
      · refine aw_block ?_  -- 3
        refine aw_lph (S := {k : Nat // k ≤ x.1.length ∧ ∀ j (hj : j < x.1.length), j < k → ¬ x.1[j] = a.name}) (fun k => [(0, .sl (us.map eTyp) n1 t1), (1, .sl (vs.map eTyp) n2 t2), (2, .sl (x.1.map eNm) x.2 tx), (3, .sl (y.1.map eNm) y.2 ty), (4, .map m), (12, .ptr b12 0), (13, .ptr b13 0), (14, .int .i64 ((k.1 : Nat) : Int)), (22, .int .i64 ((us.length : Nat) : Int)), (23, .int .i64 ((i : Nat) : Int))]) (fun _ => G1) (fun k => x.1.length - k.1) ⟨0, by omega, fun j _ h => by omega⟩ ?_ (fun _ _ h => h) ?_
        · simp only [go_sem, reduceIte, Nat.reduceEqDiff, Nat.reduceAdd, Nat.reduceMul, Nat.reduceSub, Nat.reduceLeDiff, Nat.reduceLT, reduceCtorEq, Int.natCast_zero]
        intro ⟨k, hk1, hk2⟩
        simp only
        refine aw_seq fun K17 hK17 => ?_
        refine aw_srd [(0,true),(1,true),(2,true),(3,true),(4,true),(5,true),(6,true),(7,true),(8,true),(9,true),(10,true),(11,true),(12,true)] mixed rfl (by kernel_rfl) ?_  -- r14 @picks.go:308
        by_cases hkl : k < x.1.length
        · have dk : decide ((k : Int) < (x.1.length : Int)) = true := decide_eq_true (by omega)
          simp only [go_sem, reduceIte, Nat.reduceEqDiff, Nat.reduceAdd, Nat.reduceMul, Nat.reduceSub, Nat.reduceLeDiff, Nat.reduceLT, reduceCtorEq, h12, getD_map hkl, eNm, List.length_map, dk, true_imp_iff]
          refine ⟨⟨by omega, by omega, wid_eNm' _⟩, ?_⟩
          refine aw_if rfl (fun h => ?_) (fun h => ?_)
          · have hne : ¬ x.1[k] = a.name := by simpa using h
            refine aw_skip (hK17 _ _ ?_)
            refine aw_block ?_  -- 4
            refine aw_rg rfl ?_  -- r15 @picks.go:309
            simp only [go_sem, reduceIte, Nat.reduceEqDiff, Nat.reduceAdd, Nat.reduceMul, Nat.reduceSub, Nat.reduceLeDiff, Nat.reduceLT, reduceCtorEq, wrap64 (show -9223372036854775808 ≤ (k : Int) + 1 by omega) (show (k : Int) + 1 ≤ 9223372036854775807 by omega)]
            refine ⟨⟨k + 1, by omega, fun j hj hlt => ?_⟩, by simp only; omega, ?_, sub_rfl⟩
            · by_cases e : j = k
              · subst e; exact hne
              · exact hk2 j hj (by omega)
            · simp only [go_sem, reduceIte, Nat.reduceEqDiff, Nat.reduceAdd, Nat.reduceMul, Nat.reduceSub, Nat.reduceLeDiff, Nat.reduceLT, reduceCtorEq]
              rw [Int.natCast_succ]
          have heq : x.1[k] = a.name := by simpa using h
          have hstop : Stop x.1 a.name k := ⟨hk1, hk2, fun _ => heq⟩
          refine aw_exit ?_  -- 3
          exact ⟨k, hk1, hstop, ⟨rfl, rfl, rfl, rfl, rfl, rfl, rfl, rfl, rfl⟩, rfl⟩
        · have dk : decide ((k : Int) < (x.1.length : Int)) = false := decide_eq_false (by omega)
          simp only [go_sem, reduceIte, Nat.reduceEqDiff, Nat.reduceAdd, Nat.reduceMul, Nat.reduceSub, Nat.reduceLeDiff, Nat.reduceLT, reduceCtorEq, h12, List.length_map, dk, true_imp_iff, false_imp_iff, Bool.false_eq_true]
          repeat' first
            | (refine sm.goG_off fun v => ?_
               simp only [go_sem, reduceIte, Nat.reduceEqDiff, Nat.reduceAdd, Nat.reduceMul, Nat.reduceSub, Nat.reduceLeDiff, Nat.reduceLT, reduceCtorEq, h12, dk, true_imp_iff, false_imp_iff, Bool.false_eq_true])
          refine aw_if rfl (fun h => by cases h) (fun h => ?_)
          have hstop : Stop x.1 a.name k := ⟨hk1, hk2, fun h => absurd h hkl⟩
          refine aw_exit ?_  -- 3
          exact ⟨k, hk1, hstop, ⟨rfl, rfl, rfl, rfl, rfl, rfl, rfl, rfl, rfl⟩, rfl⟩
      intro f' G' ⟨k, hkx, hsx, hf, hg⟩
      rw [hg]
      refine AW.of_fsub hf ?_
      clear hf hg
      refine aw_sr rfl ?_  -- r16 @picks.go:311
      simp only [go_sem, reduceIte, Nat.reduceEqDiff, Nat.reduceAdd, Nat.reduceMul, Nat.reduceSub, Nat.reduceLeDiff, Nat.reduceLT, reduceCtorEq]
      refine aw_mid (fun f' G' => ∃ n, n ≤ y.1.length ∧ Stop y.1 b.name n ∧ FSub [(0, .sl (us.map eTyp) n1 t1), (1, .sl (vs.map eTyp) n2 t2), (2, .sl (x.1.map eNm) x.2 tx), (3, .sl (y.1.map eNm) y.2 ty), (4, .map m), (14, .int .i64 ((k : Nat) : Int)), (15, .int .i64 ((n : Nat) : Int)), (22, .int .i64 ((us.length : Nat) : Int)), (23, .int .i64 ((i : Nat) : Int))] f' ∧ G' = G1) ?_ ?_
      · refine aw_block ?_  -- 5
        refine aw_lph (S := {n : Nat // n ≤ y.1.length ∧ ∀ j (hj : j < y.1.length), j < n → ¬ y.1[j] = b.name}) (fun n => [(0, .sl (us.map eTyp) n1 t1), (1, .sl (vs.map eTyp) n2 t2), (2, .sl (x.1.map eNm) x.2 tx), (3, .sl (y.1.map eNm) y.2 ty), (4, .map m), (13, .ptr b13 0), (14, .int .i64 ((k : Nat) : Int)), (15, .int .i64 ((n.1 : Nat) : Int)), (22, .int .i64 ((us.length : Nat) : Int)), (23, .int .i64 ((i : Nat) : Int))]) (fun _ => G1) (fun n => y.1.length - n.1) ⟨0, by omega, fun j _ h => by omega⟩ ?_ (fun _ _ h => h) ?_
        · simp only [go_sem, reduceIte, Nat.reduceEqDiff, Nat.reduceAdd, Nat.reduceMul, Nat.reduceSub, Nat.reduceLeDiff, Nat.reduceLT, reduceCtorEq, Int.natCast_zero]
        intro ⟨n, hk1, hk2⟩
        simp only
        refine aw_seq fun K17 hK17 => ?_
        refine aw_srd [(0,true),(1,true),(2,true),(3,true),(4,true),(5,true),(6,true),(7,true),(8,true),(9,true),(10,true),(11,true),(12,true)] mixed rfl (by kernel_rfl) ?_  -- r17 @picks.go:312
        by_cases hkl : n < y.1.length
        · have dk : decide ((n : Int) < (y.1.length : Int)) = true := decide_eq_true (by omega)
          simp only [go_sem, reduceIte, Nat.reduceEqDiff, Nat.reduceAdd, Nat.reduceMul, Nat.reduceSub, Nat.reduceLeDiff, Nat.reduceLT, reduceCtorEq, h13, getD_map hkl, eNm, List.length_map, dk, true_imp_iff]
          refine ⟨⟨by omega, by omega, wid_eNm' _⟩, ?_⟩
          refine aw_if rfl (fun h => ?_) (fun h => ?_)
          · have hne : ¬ y.1[n] = b.name := by simpa using h
            refine aw_skip (hK17 _ _ ?_)
            refine aw_block ?_  -- 6
            refine aw_rg rfl ?_  -- r18 @picks.go:313
            simp only [go_sem, reduceIte, Nat.reduceEqDiff, Nat.reduceAdd, Nat.reduceMul, Nat.reduceSub, Nat.reduceLeDiff, Nat.reduceLT, reduceCtorEq, wrap64 (show -9223372036854775808 ≤ (n : Int) + 1 by omega) (show (n : Int) + 1 ≤ 9223372036854775807 by omega)]
            refine ⟨⟨n + 1, by omega, fun j hj hlt => ?_⟩, by simp only; omega, ?_, sub_rfl⟩
            · by_cases e : j = n
              · subst e; exact hne
              · exact hk2 j hj (by omega)
            · simp only [go_sem, reduceIte, Nat.reduceEqDiff, Nat.reduceAdd, Nat.reduceMul, Nat.reduceSub, Nat.reduceLeDiff, Nat.reduceLT, reduceCtorEq]
              rw [Int.natCast_succ]
          have heq : y.1[n] = b.name := by simpa using h
          have hstop : Stop y.1 b.name n := ⟨hk1, hk2, fun _ => heq⟩
          refine aw_exit ?_  -- 5
          exact ⟨n, hk1, hstop, ⟨rfl, rfl, rfl, rfl, rfl, rfl, rfl, rfl, rfl⟩, rfl⟩
        · have dk : decide ((n : Int) < (y.1.length : Int)) = false := decide_eq_false (by omega)
          simp only [go_sem, reduceIte, Nat.reduceEqDiff, Nat.reduceAdd, Nat.reduceMul, Nat.reduceSub, Nat.reduceLeDiff, Nat.reduceLT, reduceCtorEq, h13, List.length_map, dk, true_imp_iff, false_imp_iff, Bool.false_eq_true]
          repeat' first
            | (refine sm.goG_off fun v => ?_
               simp only [go_sem, reduceIte, Nat.reduceEqDiff, Nat.reduceAdd, Nat.reduceMul, Nat.reduceSub, Nat.reduceLeDiff, Nat.reduceLT, reduceCtorEq, h13, dk, true_imp_iff, false_imp_iff, Bool.false_eq_true])
          refine aw_if rfl (fun h => by cases h) (fun h => ?_)
          have hstop : Stop y.1 b.name n := ⟨hk1, hk2, fun h => absurd h hkl⟩
          refine aw_exit ?_  -- 5
          exact ⟨n, hk1, hstop, ⟨rfl, rfl, rfl, rfl, rfl, rfl, rfl, rfl, rfl⟩, rfl⟩
      intro f' G' ⟨n, hny, hsy, hf, hg⟩
      rw [hg]
      refine AW.of_fsub hf ?_
      clear hf hg
      rw [stop_leaf hxy hsx hsy] at hnx hfalse
      refine aw_sr rfl ?_  -- r19 @picks.go:315
      simp only [go_sem, reduceIte, Nat.reduceEqDiff, Nat.reduceAdd, Nat.reduceMul, Nat.reduceSub, Nat.reduceLeDiff, Nat.reduceLT, reduceCtorEq, List.length_map]
      refine aw_if rfl (fun h => ?_) (fun h => ?_)
      · refine aw_sr rfl ?_  -- r20 @picks.go:316
        simp only [go_sem, reduceIte, Nat.reduceEqDiff, Nat.reduceAdd, Nat.reduceMul, Nat.reduceSub, Nat.reduceLeDiff, Nat.reduceLT, reduceCtorEq]
        refine aw_ret ⟨trivial, _, rfl, ?_, hs1⟩
        rw [hfalse (by rw [h]; rfl)]
        exact Vle.refl _
      refine aw_skip ⟨(), hnx.trans (by rw [h]; rfl), ?_, hs1⟩
      simp only [go_sem, reduceIte, Nat.reduceEqDiff, Nat.reduceAdd, Nat.reduceMul, Nat.reduceSub, Nat.reduceLeDiff, Nat.reduceLT, reduceCtorEq]
    have h5 : ¬ a.kind = 5 := by simpa using h
    refine aw_chain rfl rfl rfl rfl rfl ?_  -- t56 is one of [6]
    refine aw_if rfl (fun h => ?_) (fun h => ?_)
    · have h6 : a.kind = 6 := by simpa using h
      rw [leafF, if_neg h5, if_pos h6] at hnx hfalse
      have hlk := look_B a.name K 0
      have hcond : ∀ b1 b2 : Bool, (!(b1 && b2)) = (!b1 || !b2) := fun b1 b2 => by cases b1 <;> rfl
      refine aw_mid (fun f' G' => FSub [(119, .bool (!(decide (a.name = b.name) && tr K a.name))), (0, .sl (us.map eTyp) n1 t1), (1, .sl (vs.map eTyp) n2 t2), (2, .sl (x.1.map eNm) x.2 tx), (3, .sl (y.1.map eNm) y.2 ty), (4, .map m), (22, .int .i64 ((us.length : Nat) : Int)), (23, .int .i64 ((i : Nat) : Int))] f' ∧ G' = G1) ?_ ?_
      · refine aw_rg rfl ?_  -- r22 @picks.go:319
        cases hn : decide (a.name = b.name) with
        | false =>
          have hn2 : decide (a.name ≠ b.name) = true := decide_eq_true (of_decide_eq_false hn)
          simp only [go_sem, reduceIte, Nat.reduceEqDiff, Nat.reduceAdd, Nat.reduceMul, Nat.reduceSub, Nat.reduceLeDiff, Nat.reduceLT, reduceCtorEq, h12, h13, hn2, true_imp_iff, false_imp_iff, Bool.false_eq_true, Bool.not_true]
          repeat' first
            | (refine sm.goG_off fun v => ?_
               simp only [go_sem, reduceIte, Nat.reduceEqDiff, Nat.reduceAdd, Nat.reduceMul, Nat.reduceSub, Nat.reduceLeDiff, Nat.reduceLT, reduceCtorEq, h12, h13, hn2, true_imp_iff, false_imp_iff, Bool.false_eq_true, Bool.not_true])
          exact ⟨⟨rfl, rfl, rfl, rfl, rfl, rfl, rfl, rfl⟩, rfl⟩
        | true =>
          have hn2 : decide (a.name ≠ b.name) = false := decide_eq_false (fun h => h (of_decide_eq_true hn))
          rcases ho with rfl | ⟨r0, t0, c0, rfl⟩
          · simp only [go_sem, reduceIte, Nat.reduceEqDiff, Nat.reduceAdd, Nat.reduceMul, Nat.reduceSub, Nat.reduceLeDiff, Nat.reduceLT, reduceCtorEq, h12, h13, hn2, hm1, ↓hlk, true_imp_iff, Bool.not_false]
            exact ⟨⟨rfl, rfl, rfl, rfl, rfl, rfl, rfl, rfl⟩, rfl⟩
          · simp only [go_sem, reduceIte, Nat.reduceEqDiff, Nat.reduceAdd, Nat.reduceMul, Nat.reduceSub, Nat.reduceLeDiff, Nat.reduceLT, reduceCtorEq, h12, h13, hn2, hm1, ↓hlk, true_imp_iff, Bool.not_false]
            exact ⟨⟨rfl, rfl, rfl, rfl, rfl, rfl, rfl, rfl⟩, rfl⟩
      intro f' G' ⟨hf, hg⟩
      rw [hg]
      refine AW.of_fsub hf ?_
      refine aw_if rfl (fun h => ?_) (fun h => ?_)
      · refine aw_sr rfl ?_  -- r23 @picks.go:320
        simp only [go_sem, reduceIte, Nat.reduceEqDiff, Nat.reduceAdd, Nat.reduceMul, Nat.reduceSub, Nat.reduceLeDiff, Nat.reduceLT, reduceCtorEq]
        refine aw_ret ⟨trivial, _, rfl, ?_, hs1⟩
        rw [hfalse (by rw [Bool.not_eq_true'] at h; exact h)]
        exact Vle.refl _
      refine aw_skip ⟨(), hnx.trans (by rw [Bool.not_eq_false'] at h; exact h), ?_, hs1⟩
      simp only [go_sem, reduceIte, Nat.reduceEqDiff, Nat.reduceAdd, Nat.reduceMul, Nat.reduceSub, Nat.reduceLeDiff, Nat.reduceLT, reduceCtorEq]
    have h6 : ¬ a.kind = 6 := by simpa using h
    rw [leafF, if_neg h5, if_neg h6] at hnx hfalse
    refine aw_sr rfl ?_  -- r10 @picks.go:323
    simp only [go_sem, reduceIte, Nat.reduceEqDiff, Nat.reduceAdd, Nat.reduceMul, Nat.reduceSub, Nat.reduceLeDiff, Nat.reduceLT, reduceCtorEq, h12, h13]
    refine aw_if rfl (fun h => ?_) (fun h => ?_)
    · refine aw_sr rfl ?_  -- r11 @picks.go:324
      simp only [go_sem, reduceIte, Nat.reduceEqDiff, Nat.reduceAdd, Nat.reduceMul, Nat.reduceSub, Nat.reduceLeDiff, Nat.reduceLT, reduceCtorEq]
      refine aw_ret ⟨trivial, _, rfl, ?_, hs1⟩
      rw [hfalse ?_]
      · exact Vle.refl _
      · by_cases e1 : a.name = []
        · by_cases e2 : b.name = []
          · simp [e1, e2] at h
          · simp [e2]
        · simp [e1]
    refine aw_skip ⟨(), hnx.trans ?_, ?_, hs1⟩
    · by_cases e1 : a.name = []
      · by_cases e2 : b.name = []
        · simp [e1, e2]
        · simp [e2] at h
      · simp [e1] at h
    simp only [go_sem, reduceIte, Nat.reduceEqDiff, Nat.reduceAdd, Nat.reduceMul, Nat.reduceSub, Nat.reduceLeDiff, Nat.reduceLT, reduceCtorEq]
  intro _ he
  refine hK14 _ _ ?_
  refine aw_sr rfl ?_  -- r25 @picks.go:328
  simp only [go_sem, reduceIte, Nat.reduceEqDiff, Nat.reduceAdd, Nat.reduceMul, Nat.reduceSub, Nat.reduceLeDiff, Nat.reduceLT, reduceCtorEq]
  refine aw_ret ⟨trivial, _, rfl, ?_, sub_rfl⟩
  rw [List.take_length, hl, List.take_length] at he
  rw [he]; exact Vle.refl _
end Go.Proofs.Ytclmcpbanaojfaa

/- Types of two programs that are the same: the reference. -/
set_option linter.unusedSimpArgs false
set_option linter.unusedVariables false
namespace Go.Proofs.Ytclmcpbanaojfaa
open Go.Proofs.YtclmcpbanaojfaaV
set_option maxHeartbeats 8000000
set_option maxRecDepth 100000
namespace sm
theorem qonO {P : Go.Program} {b : Nat} {o : AObj} {G : Heap} {g : FuncId} {args : List V} {x : V} (h : QuietOn P [(b, o)] g args x) (hb : hget G b = some o) (ho : ∀ e c, o ≠ .top e c) : QOn P G g args x := fun G' hs => h G' (sub_one (hs _ _ hb ho))
theorem MapO.not_top {K : KV} {o : AObj} (h : MapO K o) : ∀ e c, o ≠ .top e c := fun e c q => by
  rcases h with h | ⟨_, _, _, h⟩ <;> rw [h] at q <;> cases q
theorem MapO.not_vars {K : KV} {o : AObj} (h : MapO K o) : ∀ cs, o ≠ .vars cs := fun e q => by
  rcases h with h | ⟨_, _, _, h⟩ <;> rw [h] at q <;> cases q
/-- A name that is there is put where it stands. -/
theorem put_at (n : N) (b : Bool) : ∀ (l : KV) (i : Nat), look l n ≠ none → ∃ j, ∃ h : j < l.length, mfind (.str n) (l.map kvB) i = some (some (i + j, .bool l[j].2)) ∧ (l.map kvB).set j (.str n, .bool b) = (putK l n b).map kvB
  | [], i, h => absurd rfl h
  | q :: l, i, h => by
    simp only [List.map_cons, mfind, keyEq, putK]
    simp only [look] at h
    by_cases hn : n = q.1
    · rw [decide_eq_true hn, if_pos hn.symm]
      exact ⟨0, by simp, rfl, rfl⟩
    · rw [if_neg (fun e => hn e.symm)] at h
      rw [decide_eq_false hn, if_neg (fun e => hn e.symm)]
      obtain ⟨j, hj, h1, h2⟩ := put_at n b l (i + 1) h
      exact ⟨j + 1, by simp; omega, by rw [show i + (j + 1) = i + 1 + j from by omega]; exact h1, by rw [List.set_cons_succ, h2]; rfl⟩
theorem put_same (n : N) (b : Bool) : ∀ {l : KV}, look l n ≠ none → (putK l n b).map (·.1) = l.map (·.1)
  | [], h => absurd rfl h
  | q :: l, h => by
    simp only [putK]
    simp only [look] at h
    by_cases hn : q.1 = n
    · rw [if_pos hn, List.map_cons, List.map_cons, hn]
    · rw [if_neg hn] at h ⊢
      rw [List.map_cons, List.map_cons, put_same n b h]
def cnt : KV → Nat
  | [] => 0
  | q :: l => (if q.2 = true then 1 else 0) + cnt l
theorem cnt_put (n : N) : ∀ {l : KV}, look l n = some true → cnt (putK l n false) < cnt l
  | q :: l, h => by
    simp only [putK]
    simp only [look] at h
    by_cases hn : q.1 = n
    · rw [if_pos hn] at h ⊢
      simp only [cnt, Option.some.inj h]
      simp
    · rw [if_neg hn] at h ⊢
      have := cnt_put n h
      simp only [cnt]; omega
/-- What the reference keeps is not less than the greatest. -/
structure RK (p q : Prgm) (K : KV) : Prop where
  le : Le (big p q) (tr K)
  nd : (K.map (·.1)).Nodup
  old : ∀ n, look K n ≠ none → (dataF p n).isSome = true
  new : ∀ n, look K n = some true → (dataF q n).isSome = true
theorem RK.put {p q : Prgm} {K : KV} (h : RK p q K) {n : N} (hn : look K n ≠ none) (hb : big p q n = false) : RK p q (putK K n false) := by
  refine ⟨fun m hm => ?_, nodup_put _ _ h.nd, fun m hm => ?_, fun m hm => ?_⟩
  · have e : ¬ m = n := fun e => by rw [e, hb] at hm; cases hm
    have := tr_iff.1 (h.le m hm)
    rw [tr_iff, look_put, if_neg e]; exact this
  · rw [look_put] at hm
    by_cases e : m = n
    · rw [e]; exact h.old n hn
    · rw [if_neg e] at hm; exact h.old m hm
  · rw [look_put] at hm
    by_cases e : m = n
    · rw [if_pos e] at hm; cases hm
    · rw [if_neg e] at hm; exact h.new m hm
theorem RK.eq {p q : Prgm} {K : KV} (h : RK p q K) (hp : Post p q (tr K)) : tr K = big p q := by
  funext n
  cases h1 : tr K n with
  | true => exact (big_of hp n h1).symm
  | false =>
    cases h2 : big p q n with
    | false => rfl
    | true => rw [h.le n h2] at h1; cases h1
theorem maksF_take1 {al : Al} {x y : List N} : ∀ {us vs : List Mak} (i : Nat), maksF al x y us vs = true → maksF al x y (us.take i) (vs.take i) = true
  | [], [], i, _ => by simp [maksF]
  | [], _ :: _, i, h => by cases h
  | _ :: _, [], i, h => by cases h
  | a :: us, b :: vs, 0, _ => by simp [maksF]
  | a :: us, b :: vs, i + 1, h => by
    rw [maksF, Bool.and_eq_true] at h
    rw [List.take_succ_cons, List.take_succ_cons, maksF, h.1, maksF_take1 i h.2]; rfl
structure T1 where
  K : KV
  H : Heap
structure T2 where
  K : KV
  turned : Bool
  H : Heap
structure T3 where
  K : KV
  turned : Bool
  todo : List Nat
  cur : Option Nat
  H : Heap
end sm
open sm
theorem q_rShapeSame {p q : Prgm} (hp : o23 p.2.2.2.1) (hq : o23 q.2.2.2.1) {a b : Typ} (oa : OkTyp a) : Quiet Try.prog 22 [.agg (cPrg p), .agg (cPrg q), .agg (cTyp a), .agg (cTyp b)] (.bool (sameF (big p q) [] [] a b)) := by
  have hpl : p.2.2.2.1.1.length ≤ 1048576 := hp.2.1
  refine Quiet.weak fun G => ?_
  refine acall_body (rs := [.tmp 8]) Try.func22 rfl rfl Try.ntmps22 (by kernel_rfl) (Nat.le_of_ble_eq_true rfl) ?_
  refine aw_sr rfl ?_  -- r0 @picks.go:332
  simp only [go_sem, reduceIte, Nat.reduceEqDiff, Nat.reduceAdd, Nat.reduceMul, Nat.reduceSub, Nat.reduceLeDiff, Nat.reduceLT, reduceCtorEq]
  intro b4 hb4 b5 hb5 b6 hb6 b7 hb7
  refine aw_box4 hb4 hb5 hb6 hb7 fun B1 hs1 h4 h5 h6 h7 => ?_
  have hSF1 : SF p q a b b4 b5 b6 b7 G B1 := ⟨h4, h5, h6, h7, hs1⟩
  refine aw_sr rfl ?_  -- r1 @picks.go:333
  simp only [go_sem, reduceIte, Nat.reduceEqDiff, Nat.reduceAdd, Nat.reduceMul, Nat.reduceSub, Nat.reduceLeDiff, Nat.reduceLT, reduceCtorEq]
  intro b19 hb19
  have n19 := sub_none hs1 hb19
  refine aw_box1 hb19 fun B2 hs2 h19 => ?_
  replace hSF1 := hSF1.up hs2
  clear h4 h5 h6 h7 hs1 hs2 hb4 hb5 hb6 hb7 hb19
  have h4 := hSF1.h4
  simp only [e29] at h4
  refine aw_seq fun K5 hK5 => ?_
  refine aw_sr rfl ?_  -- r2 @picks.go:334
  simp only [go_sem, reduceIte, Nat.reduceEqDiff, Nat.reduceAdd, Nat.reduceMul, Nat.reduceSub, Nat.reduceLeDiff, Nat.reduceLT, reduceCtorEq, h4]
  refine aw_range p.2.2.2.1.1.length (S := T1) (fun i s => [(4, .ptr b4 0), (5, .ptr b5 0), (6, .ptr b6 0), (7, .ptr b7 0), (9, .map b19), (21, .sl (p.2.2.2.1.1.map eData) p.2.2.2.1.2 .no)]) (fun _ s => s.H) (fun i s => SF p q a b b4 b5 b6 b7 G s.H ∧ hget s.H b19 = some (.map (s.K.map kvB)) ∧ (s.K.map (·.1)).Nodup ∧ (∀ n v, sm.look s.K n = some v → v = (dataF q n).isSome ∧ (dataF p n).isSome = true) ∧ ∀ j (h : j < p.2.2.2.1.1.length), j < i → sm.look s.K p.2.2.2.1.1[j].1 ≠ none) ⟨[], B2⟩ (by omega) ?_ (fun _ _ h => h) ⟨hSF1, h19, List.nodup_nil, fun n v h => (by cases h), fun j _ h => by omega⟩ rfl (fun _ _ => rfl) ?_ ?_ (by decide)
  · simp only [go_sem, reduceIte, Nat.reduceEqDiff, Nat.reduceAdd, Nat.reduceMul, Nat.reduceSub, Nat.reduceLeDiff, Nat.reduceLT, reduceCtorEq, Int.natCast_zero]
  · intro i ⟨K, H⟩ hi ⟨hSF, h19, hnd, hkv, hin⟩
    simp only at hSF h19 hnd hkv hin ⊢
    refine aw_sr rfl ?_  -- r4 @picks.go:334
    simp only [go_sem, reduceIte, Nat.reduceEqDiff, Nat.reduceAdd, Nat.reduceMul, Nat.reduceSub, Nat.reduceLeDiff, Nat.reduceLT, reduceCtorEq, getD_map hi, e194]
    refine ⟨⟨by omega, by omega, wid_map (g := eData) (fun _ => rfl) _⟩, ?_⟩
    intro b11 hb11
    refine aw_box1 hb11 fun B3 hs3 h11 => ?_
    replace hSF := hSF.up hs3
    replace h19 := hs3 _ _ h19
    clear hb11 hs3
    have h5 := hSF.h5
    have hdo := q_dataOf q p.2.2.2.1.1[i].1 hq.2.1
    simp only [e29] at h5 hdo
    obtain ⟨r, hf, hpt⟩ := put_B p.2.2.2.1.1[i].1 (dataF q p.2.2.2.1.1[i].1).isSome K
    have hge : decide (ixI (q.2.2.2.1.1.findIdx? fun d => decide (d.1 = p.2.2.2.1.1[i].1)) ≥ 0) = (dataF q p.2.2.2.1.1[i].1).isSome := by
      rcases dataF_ix q p.2.2.2.1.1[i].1 with ⟨e1, e2⟩ | ⟨j, hj, e1, e2⟩
      · rw [e1, e2]; rfl
      · rw [e1, e2]; exact decide_eq_true (by simp only [ixI]; omega)
    have hge' : decide (0 ≤ ixI (q.2.2.2.1.1.findIdx? fun d => decide (d.1 = p.2.2.2.1.1[i].1))) = (dataF q p.2.2.2.1.1[i].1).isSome := hge
    have hps : (dataF p p.2.2.2.1.1[i].1).isSome = true := by
      rw [dataF, List.find?_isSome]
      exact ⟨_, List.getElem_mem hi, by simp⟩
    refine aw_rgd [(0,true),(1,true),(2,true),(3,true),(4,true),(5,true),(6,true),(7,true),(8,false)] mixed rfl (by kernel_rfl) ?_  -- r5 @picks.go:335
    simp only [go_sem, reduceIte, Nat.reduceEqDiff, Nat.reduceAdd, Nat.reduceMul, Nat.reduceSub, Nat.reduceLeDiff, Nat.reduceLT, reduceCtorEq, h5, h11]
    refine goQ_by hdo ?_
    simp only [go_sem, reduceIte, Nat.reduceEqDiff, Nat.reduceAdd, Nat.reduceMul, Nat.reduceSub, Nat.reduceLeDiff, Nat.reduceLT, reduceCtorEq, h5, h11, h19, hge, hge', hf, hpt]
    refine ⟨⟨putK K p.2.2.2.1.1[i].1 (dataF q p.2.2.2.1.1[i].1).isSome, _⟩, ⟨hSF.fr fr_hset h19 (fun _ e => by cases e) n19, hget_hset_self h19, nodup_put _ _ hnd, fun n v hv => ?_, fun j hj hlt => ?_⟩, ?_, sub_rfl⟩
    · rw [look_put] at hv
      by_cases e : n = p.2.2.2.1.1[i].1
      · rw [if_pos e] at hv
        rw [e]; exact ⟨(Option.some.inj hv).symm, hps⟩
      · rw [if_neg e] at hv
        exact hkv n v hv
    · rw [look_put]
      by_cases e : p.2.2.2.1.1[j].1 = p.2.2.2.1.1[i].1
      · rw [if_pos e]; simp
      · rw [if_neg e]
        by_cases e2 : j = i
        · subst e2; exact absurd rfl e
        · exact hin j hj (by omega)
    · simp only [go_sem, reduceIte, Nat.reduceEqDiff, Nat.reduceAdd, Nat.reduceMul, Nat.reduceSub, Nat.reduceLeDiff, Nat.reduceLT, reduceCtorEq]
  intro ⟨K, H⟩ ⟨hSF, h19, hnd, hkv, hin⟩
  simp only at hSF h19 hnd hkv hin ⊢
  clear hSF1 h4
  have hRK : RK p q K := by
    refine ⟨fun n hn => ?_, hnd, fun n hn => ?_, fun n hn => ((hkv n true hn).1).symm⟩
    · have h1 := big_post p q n hn
      rw [okD] at h1
      cases hd : dataF p n with
      | none => rw [hd] at h1; cases h1
      | some d =>
        cases he : dataF q n with
        | none => rw [hd, he] at h1; cases h1
        | some e =>
          rcases dataF_ix p n with ⟨e1, _⟩ | ⟨j, hj, e1, e2⟩
          · rw [hd] at e1; cases e1
          · have hname : p.2.2.2.1.1[j].1 = n := by
              have := List.find?_some e1
              simpa using this
            have h2 := hin j hj hj
            rw [hname] at h2
            cases hk : sm.look K n with
            | none => exact absurd hk h2
            | some v =>
              have := (hkv n v hk).1
              rw [he] at this
              rw [tr_iff, hk, this]; rfl
    · cases hk : sm.look K n with
      | none => exact absurd hk hn
      | some v => exact (hkv n v hk).2
  clear hnd hkv hin
  refine hK5 _ _ ?_
  refine aw_seq fun K6 hK6 => ?_
  refine aw_sr rfl ?_  -- r7 @picks.go:337
  simp only [go_sem, reduceIte, Nat.reduceEqDiff, Nat.reduceAdd, Nat.reduceMul, Nat.reduceSub, Nat.reduceLeDiff, Nat.reduceLT, reduceCtorEq]
  refine aw_block ?_  -- 2
  refine aw_lph (S := {s : T2 // SF p q a b b4 b5 b6 b7 G s.H ∧ (∃ o, MapO s.K o ∧ hget s.H b19 = some o) ∧ RK p q s.K ∧ (s.turned = false → Post p q (tr s.K))}) (fun s => [(4, .ptr b4 0), (5, .ptr b5 0), (6, .ptr b6 0), (7, .ptr b7 0), (9, .map b19), (12, .bool s.1.turned)]) (fun s => s.1.H) (fun s => 2 * cnt s.1.K + (if s.1.turned = true then 1 else 0)) ⟨⟨K, true, H⟩, hSF, ⟨_, .inl rfl, h19⟩, hRK, fun e => by cases e⟩ ?_ (fun _ _ h => h) ?_
  · simp only [go_sem, reduceIte, Nat.reduceEqDiff, Nat.reduceAdd, Nat.reduceMul, Nat.reduceSub, Nat.reduceLeDiff, Nat.reduceLT, reduceCtorEq]
  clear hSF h19 hRK
  clear K H
  intro ⟨⟨K, turned, H⟩, hSF, ⟨o, ho, h19⟩, hRK, hpost⟩
  simp only at hSF h19 hRK hpost ⊢
  refine aw_seq fun K7 hK7 => ?_
  refine aw_sr rfl ?_  -- r8 @picks.go:337
  simp only [go_sem, reduceIte, Nat.reduceEqDiff, Nat.reduceAdd, Nat.reduceMul, Nat.reduceSub, Nat.reduceLeDiff, Nat.reduceLT, reduceCtorEq]
  cases turned with
  | false =>
    refine aw_if rfl (fun h => by cases h) (fun h => ?_)
    refine aw_exit ?_  -- 2
    refine hK6 _ _ ?_
    have h6 := hSF.h6
    have h7 := hSF.h7
    have heq := hRK.eq (hpost rfl)
    refine aw_sr rfl ?_  -- r23 @picks.go:354
    simp only [go_sem, reduceIte, Nat.reduceEqDiff, Nat.reduceAdd, Nat.reduceMul, Nat.reduceSub, Nat.reduceLeDiff, Nat.reduceLT, reduceCtorEq, h6, h7]
    have hta := q_typesAlike ho (tszs [a]) [a] [b] ([], true) ([], true) false false .full .full .full .full (Nat.le_refl _) (fun c hc => by rw [List.mem_singleton] at hc; rw [hc]; exact oa) (show 1 ≤ bulk by decide) (by decide) rfl (m := b19)
    simp only [List.map_cons, List.map_nil, eTyp_eq] at hta
    refine goA_on hta (sub_one h19) ?_
    simp only [go_sem, reduceIte, Nat.reduceEqDiff, Nat.reduceAdd, Nat.reduceMul, Nat.reduceSub, Nat.reduceLeDiff, Nat.reduceLT, reduceCtorEq]
    refine aw_ret ⟨trivial, _, rfl, ?_, hSF.sub⟩
    rw [heq, sameFs, sameFs, Bool.and_true]; exact Vle.refl _
  | true =>
  refine aw_if rfl (fun h => ?_) (fun h => by cases h)
  refine aw_skip (hK7 _ _ ?_)
  have hgo : ∃ H', (∀ (N : Nat) (c : Code) (Q : Cont) (f : Go.Proofs.YtclmcpbanaojfaaV.Frame), AW Try.prog N c Q f H' → AW Try.prog N c Q f H) ∧ SF p q a b b4 b5 b6 b7 G H' ∧ hget H' b19 = some (.map (K.map kvB)) := by
    rcases ho with rfl | ⟨r, t, c, rfl⟩
    · exact ⟨H, fun _ _ _ _ h => h, hSF, h19⟩
    · exact ⟨_, fun _ _ _ _ h => AW.unr h19 h, hSF.fr fr_hset h19 (fun _ e => by cases e) n19, hget_hset_self h19⟩
  obtain ⟨H1, hto, hSF, h19⟩ := hgo
  refine hto _ _ _ _ ?_
  clear hto
  refine aw_block ?_  -- 3
  refine aw_sr rfl ?_  -- r9 @picks.go:338
  simp only [go_sem, reduceIte, Nat.reduceEqDiff, Nat.reduceAdd, Nat.reduceMul, Nat.reduceSub, Nat.reduceLeDiff, Nat.reduceLT, reduceCtorEq]
  refine aw_sr rfl ?_  -- r10 @picks.go:339
  simp only [go_sem, reduceIte, Nat.reduceEqDiff, Nat.reduceAdd, Nat.reduceMul, Nat.reduceSub, Nat.reduceLeDiff, Nat.reduceLT, reduceCtorEq, h19]
  intro i1 hi1
  try rw [List.length_map]
  generalize hG1 : ((i1, AObj.miter b19) :: hset H1 b19 _) = H2
  obtain ⟨hi1', hr1, hF1⟩ := mrange h19 hi1 hG1
  clear hG1
  replace hSF := hSF.fr hF1 h19 (fun _ e => by cases e) n19
  have n119 : ¬ i1 = b19 := fun e => by rw [e, hr1] at hi1'; cases hi1'
  clear hF1 hi1 h19
  refine aw_block ?_  -- 4
  refine aw_lph (S := {s : T3 // SF p q a b b4 b5 b6 b7 G s.H ∧ hget s.H i1 = some (.miter b19) ∧ hget s.H b19 = some (.mapr (s.K.map kvB) i1 s.todo s.cur) ∧ RK p q s.K ∧ s.K.map (·.1) = K.map (·.1) ∧ cnt s.K ≤ cnt K ∧ (s.turned = true → cnt s.K < cnt K) ∧ (s.turned = false → s.K = K ∧ ∀ j (h : j < K.length), j ∉ s.todo → K[j].2 = true → okD p q (tr K) K[j].1 = true)}) (fun s => [(4, .ptr b4 0), (5, .ptr b5 0), (6, .ptr b6 0), (7, .ptr b7 0), (9, .map b19), (12, .bool s.1.turned), (38, .ptr i1 0)]) (fun s => s.1.H) (fun s => s.1.todo.length) ⟨⟨K, false, List.range K.length, none, H2⟩, hSF, hi1', hr1, hRK, rfl, Nat.le_refl _, fun e => (by cases e), fun _ => ⟨rfl, fun j hj hn => absurd (List.mem_range.2 hj) hn⟩⟩ ?_ (fun _ _ h => h) ?_
  · simp only [go_sem, reduceIte, Nat.reduceEqDiff, Nat.reduceAdd, Nat.reduceMul, Nat.reduceSub, Nat.reduceLeDiff, Nat.reduceLT, reduceCtorEq]
  clear hSF hi1' hr1
  clear H2
  intro ⟨⟨Kc, turned, todo, cur, H⟩, hSF, hi1, hr1, hRc, hks, hc1, hc2, hc3⟩
  simp only at hSF hi1 hr1 hRc hks hc1 hc2 hc3 ⊢
  have hkl : Kc.length = K.length := by have := congrArg List.length hks; simpa using this
  refine aw_sr rfl ?_  -- r11 @picks.go:339
  simp only [go_sem, reduceIte, Nat.reduceEqDiff, Nat.reduceAdd, Nat.reduceMul, Nat.reduceSub, Nat.reduceLeDiff, Nat.reduceLT, reduceCtorEq, hi1, hr1]
  refine goNm_by (fun htd => ?_) (fun j hj hlt => ?_)
  · simp only [go_sem, reduceIte, Nat.reduceEqDiff, Nat.reduceAdd, Nat.reduceMul, Nat.reduceSub, Nat.reduceLeDiff, Nat.reduceLT, reduceCtorEq]
    refine aw_seq fun K8 hK8 => ?_
    refine aw_if rfl (fun h => by cases h) (fun h => ?_)
    refine aw_exit ?_  -- 4
    subst htd
    refine ⟨⟨⟨Kc, turned, H⟩, hSF, ⟨_, .inr ⟨_, _, _, rfl⟩, hr1⟩, hRc, fun ht n hn => ?_⟩, ?_, ?_, sub_rfl⟩
    · obtain ⟨rfl, h2⟩ := hc3 ht
      obtain ⟨j, hj, e⟩ := List.getElem_of_mem (look_mem (tr_iff.1 hn))
      have := h2 j hj (by simp) (by rw [e])
      rw [e] at this; exact this
    · simp only
      cases turned with
      | false => simp; omega
      | true => have := hc2 rfl; simp; omega
    · simp only [go_sem, reduceIte, Nat.reduceEqDiff, Nat.reduceAdd, Nat.reduceMul, Nat.reduceSub, Nat.reduceLeDiff, Nat.reduceLT, reduceCtorEq]
  have hj' : j < Kc.length := by simpa using hlt
  simp only [go_sem, reduceIte, Nat.reduceEqDiff, Nat.reduceAdd, Nat.reduceMul, Nat.reduceSub, Nat.reduceLeDiff, Nat.reduceLT, reduceCtorEq, List.getElem_map]
  refine aw_seq fun K8 hK8 => ?_
  refine aw_if rfl (fun h => ?_) (fun h => by cases h)
  refine aw_skip (hK8 _ _ ?_)
  have hr3 := hget_hset_self (y := AObj.mapr (Kc.map kvB) i1 (todo.erase j) (some j)) hr1
  have hF3 : Fr b19 H (hset H b19 (.mapr (Kc.map kvB) i1 (todo.erase j) (some j))) := Fr.hset
  replace hSF := hSF.fr hF3 hr1 (fun _ e => by cases e) n19
  replace hi1 := hF3 _ _ n119 hi1
  generalize hset H b19 (.mapr (Kc.map kvB) i1 (todo.erase j) (some j)) = H3 at hF3 hr3 hSF hi1
  clear hF3 hr1
  have hgj : (Kc.map kvB)[j]? = some (.str Kc[j].1, .bool Kc[j].2) := by rw [List.getElem?_map, List.getElem?_eq_getElem hj']; rfl
  have hlen : (todo.erase j).length < todo.length := by
    have := List.length_pos_of_mem hj
    rw [List.length_erase_of_mem hj]; omega
  have hout : ∀ i, i ∉ todo.erase j → i = j ∨ i ∉ todo := fun i hi => by
    by_cases e : i = j
    · exact .inl e
    · exact .inr fun h => hi ((List.mem_erase_of_ne e).2 h)
  have hmem : Kc[j] ∈ Kc := List.getElem_mem hj'
  have hlkj := look_of hRc.nd hmem
  have hKj : turned = false → Kc = K → ∀ (h : j < K.length), K[j] = Kc[j] := fun _ e h => by subst e; rfl
  generalize hkj : Kc[j] = kj at hlkj hgj hKj
  obtain ⟨n, v⟩ := kj
  simp only at hlkj hgj hKj
  refine aw_block ?_  -- 5
  refine aw_sr rfl ?_  -- r12 @picks.go:339
  simp only [go_sem, reduceIte, Nat.reduceEqDiff, Nat.reduceAdd, Nat.reduceMul, Nat.reduceSub, Nat.reduceLeDiff, Nat.reduceLT, reduceCtorEq, hi1, hr3, hgj]
  refine aw_seq fun K9 hK9 => ?_
  refine aw_sr rfl ?_  -- r13 @picks.go:340
  simp only [go_sem, reduceIte, Nat.reduceEqDiff, Nat.reduceAdd, Nat.reduceMul, Nat.reduceSub, Nat.reduceLeDiff, Nat.reduceLT, reduceCtorEq]
  cases v with
  | false =>
    refine aw_if rfl (fun h => ?_) (fun h => by cases h)
    refine aw_exit ?_  -- 5
    refine ⟨⟨⟨Kc, turned, todo.erase j, some j, H3⟩, hSF, hi1, hr3, hRc, hks, hc1, hc2, fun ht => ⟨(hc3 ht).1, fun i hi hn hv => ?_⟩⟩, hlen, ?_, sub_rfl⟩
    · rcases hout i hn with rfl | hn
      · rw [hKj ht (hc3 ht).1 hi] at hv; cases hv
      · exact (hc3 ht).2 i hi hn hv
    · simp only [go_sem, reduceIte, Nat.reduceEqDiff, Nat.reduceAdd, Nat.reduceMul, Nat.reduceSub, Nat.reduceLeDiff, Nat.reduceLT, reduceCtorEq]
  | true =>
  refine aw_if rfl (fun h => by cases h) (fun h => ?_)
  refine aw_skip (hK9 _ _ ?_)
  clear hgj
  have hin : sm.look Kc n ≠ none := by rw [hlkj]; simp
  obtain ⟨d, hd⟩ := Option.isSome_iff_exists.1 (hRc.old n hin)
  obtain ⟨e, he⟩ := Option.isSome_iff_exists.1 (hRc.new n hlkj)
  have hok : ∀ T, okD p q T n = datF T d e := fun T => by rw [okD, hd, he]
  have od := hp.2.2 d (List.mem_of_find?_eq_some hd)
  have oe := hq.2.2 e (List.mem_of_find?_eq_some he)
  have h4 := hSF.h4
  have h5 := hSF.h5
  simp only [e29] at h4 h5
  refine aw_mid (fun f' G' => ∃ b15 b16, FSub [(4, .ptr b4 0), (5, .ptr b5 0), (6, .ptr b6 0), (7, .ptr b7 0), (9, .map b19), (12, .bool turned), (13, .str n), (15, .ptr b15 0), (16, .ptr b16 0), (38, .ptr i1 0)] f' ∧ Sub H3 G' ∧ hget G' b15 = some (.vars (eData d)) ∧ hget G' b16 = some (.vars (eData e))) ?_ ?_
  · have hdo1 := q_dataOf p n hp.2.1
    have hdo2 := q_dataOf q n hq.2.1
    simp only [e29] at hdo1 hdo2
    obtain ⟨i1d, hi1d, e11, e12⟩ : ∃ i, ∃ h : i < p.2.2.2.1.1.length, d = p.2.2.2.1.1[i] ∧ p.2.2.2.1.1.findIdx? (fun d => decide (d.1 = n)) = some i := by
      rcases dataF_ix p n with ⟨e1, _⟩ | ⟨j, hj, e1, e2⟩
      · rw [hd] at e1; cases e1
      · rw [hd] at e1; exact ⟨j, hj, Option.some.inj e1, e2⟩
    obtain ⟨i2d, hi2d, e21, e22⟩ : ∃ i, ∃ h : i < q.2.2.2.1.1.length, e = q.2.2.2.1.1[i] ∧ q.2.2.2.1.1.findIdx? (fun d => decide (d.1 = n)) = some i := by
      rcases dataF_ix q n with ⟨e1, _⟩ | ⟨j, hj, e1, e2⟩
      · rw [he] at e1; cases e1
      · rw [he] at e1; exact ⟨j, hj, Option.some.inj e1, e2⟩
    rw [e12] at hdo1
    rw [e22] at hdo2
    simp only [ixI] at hdo1 hdo2
    have hw1 : wid 3 (p.2.2.2.1.1.map eData) := wid_map (g := eData) (fun _ => rfl) _
    have hw2 : wid 3 (q.2.2.2.1.1.map eData) := wid_map (g := eData) (fun _ => rfl) _
    refine aw_rgt [(0,true),(1,true),(2,true),(3,true),(4,true),(5,true),(6,true),(7,true),(8,false),(9,true),(10,true),(11,true),(12,true),(13,false),(14,false),(15,false),(16,false),(17,false)]
      (.fork3 [(0,true),(1,true),(2,true),(3,true),(4,true),(5,true),(6,true),(7,true),(9,true),(10,true),(11,true)] 8 14 15 (.fork3 [(12,true)] 13 14 15 (.fork2 [] 14 15 (.leaf [(15,false),(16,false),(17,false)]) (.leaf [(14,false),(16,false),(17,false)])) (.fork2 [] 13 15 (.leaf [(15,false),(16,false),(17,false)]) (.fork2 [] 13 16 (.leaf [(16,false),(17,false)]) (.leaf [(13,false),(17,false)]))) (.fork2 [] 13 14 (.leaf [(14,false),(16,false),(17,false)]) (.fork2 [] 13 16 (.leaf [(16,false),(17,false)]) (.leaf [(13,false),(17,false)])))) (.fork2 [] 8 15 (.fork2 [(12,true)] 13 15 (.leaf [(15,false),(16,false),(17,false)]) (.fork2 [] 13 16 (.leaf [(16,false),(17,false)]) (.leaf [(13,false),(17,false)]))) (.fork2 [] 8 16 (.fork2 [(12,true)] 13 16 (.leaf [(16,false),(17,false)]) (.leaf [(13,false),(17,false)])) (.leaf [(8,false),(12,true),(13,false),(17,false)]))) (.fork2 [] 8 14 (.fork2 [(12,true)] 13 14 (.leaf [(14,false),(16,false),(17,false)]) (.fork2 [] 13 16 (.leaf [(16,false),(17,false)]) (.leaf [(13,false),(17,false)]))) (.fork2 [] 8 16 (.fork2 [(12,true)] 13 16 (.leaf [(16,false),(17,false)]) (.leaf [(13,false),(17,false)])) (.leaf [(8,false),(12,true),(13,false),(17,false)])))) mixed rfl (by kernel_rfl) ?_  -- r14
    have q1 : 0 ≤ (i1d : Int) ∧ (i1d : Int) < (p.2.2.2.1.1.length : Int) := ⟨by omega, by omega⟩
    have q2 : 0 ≤ (i2d : Int) ∧ (i2d : Int) < (q.2.2.2.1.1.length : Int) := ⟨by omega, by omega⟩
    simp only [go_sem, reduceIte, Nat.reduceEqDiff, Nat.reduceAdd, Nat.reduceMul, Nat.reduceSub, Nat.reduceLeDiff, Nat.reduceLT, reduceCtorEq, goTr, h4, h5]
    refine goQ_by hdo1 ?_
    simp only [go_sem, reduceIte, Nat.reduceEqDiff, Nat.reduceAdd, Nat.reduceMul, Nat.reduceSub, Nat.reduceLeDiff, Nat.reduceLT, reduceCtorEq, goTr, h4, h5, getD_map hi1d, e194]
    refine ⟨⟨by omega, by omega, hw1⟩, ?_⟩
    refine goQ_by hdo2 ?_
    simp only [go_sem, reduceIte, Nat.reduceEqDiff, Nat.reduceAdd, Nat.reduceMul, Nat.reduceSub, Nat.reduceLeDiff, Nat.reduceLT, reduceCtorEq, goTr, h4, h5, getD_map hi2d, e194]
    rw [e11, e21]
    repeat' first
      | exact hw1
      | exact hw2
      | omega
      | (intro bq hbq
         obtain ⟨n3, hbq'⟩ := fresh_cons hbq
         have n3' : ¬ bp = bq := fun e => n3 (Eq.symm e)
         have n2 := ne_fresh h5 hbq'
         have n2' : ¬ bq = b5 := fun e => n2 (Eq.symm e)
         simp only [go_sem, reduceIte, Nat.reduceEqDiff, Nat.reduceAdd, Nat.reduceMul, Nat.reduceSub, Nat.reduceLeDiff, Nat.reduceLT, reduceCtorEq, goTr, h5, getD_map hi2d, e194, hget_cons, sm.hset_cons, n1, n1', n2, n2', n3, n3'])
      | (intro bp hbp
         have n1 := ne_fresh h5 hbp
         have n1' : ¬ bp = b5 := fun e => n1 (Eq.symm e)
         have k5 : hget ((bp, AObj.vars [.str [], .sl [] true .full, .sl [] true .full]) :: H3) b5 = _ := sub_tail hbp _ _ h5
         try simp only [go_sem, reduceIte, Nat.reduceEqDiff, Nat.reduceAdd, Nat.reduceMul, Nat.reduceSub, Nat.reduceLeDiff, Nat.reduceLT, reduceCtorEq, goTr, k5, getD_map hi2d, e194])
      | (refine ⟨_, _, ⟨rfl, rfl, rfl, rfl, rfl, rfl, rfl, rfl, rfl, rfl⟩, sub_fresh hbq' (sub_tail hbp), ?_, ?_⟩ <;> simp [hget_cons, n3, n3'])
      | refine And.intro ?_ ?_
  intro f' G1 ⟨b15, b16, hf, hs1, h15, h16⟩
  refine AW.of_fsub hf ?_
  clear hf h4 h5
  replace hSF := hSF.up hs1
  replace hi1 := hs1 _ _ hi1
  replace hr3 := hs1 _ _ hr3
  clear hs1
  have hmap : MapO Kc (.mapr (Kc.map kvB) i1 (todo.erase j) (some j)) := .inr ⟨_, _, _, rfl⟩
  rw [eData_eq] at h15 h16
  have hdl : d.2.2.1.length ≤ 1048576 := od.2.2.2.1
  have hlb : ∀ ok : Bool, (decide (d.2.1.1.length = e.2.1.1.length) && decide (d.2.2.1.length = e.2.2.1.length)) = ok → ok = false → datF (tr Kc) d e = false := fun ok h1 h2 => by
    rw [h2] at h1
    rw [datF]
    by_cases e1 : d.2.1.1.length = e.2.1.1.length
    · by_cases e2 : d.2.2.1.length = e.2.2.1.length
      · rw [decide_eq_true e1, decide_eq_true e2] at h1; cases h1
      · rw [maksF_len e2, Bool.and_false]
    · rw [decide_eq_false e1]; rfl
  refine aw_sr rfl ?_  -- r15 @picks.go:344
  simp only [go_sem, reduceIte, Nat.reduceEqDiff, Nat.reduceAdd, Nat.reduceMul, Nat.reduceSub, Nat.reduceLeDiff, Nat.reduceLT, reduceCtorEq, h15, h16, List.length_map, Int.natCast_inj]
  generalize hLb : (decide (d.2.1.1.length = e.2.1.1.length) && decide (d.2.2.1.length = e.2.2.1.length)) = Lb at hlb
  refine aw_mid (fun f' G' => FSub [(4, .ptr b4 0), (5, .ptr b5 0), (6, .ptr b6 0), (7, .ptr b7 0), (9, .map b19), (12, .bool turned), (13, .str n), (17, .bool (datF (tr Kc) d e)), (38, .ptr i1 0)] f' ∧ G' = G1) ?_ ?_
  · refine aw_sr rfl ?_  -- r16 @picks.go:345
    simp only [go_sem, reduceIte, Nat.reduceEqDiff, Nat.reduceAdd, Nat.reduceMul, Nat.reduceSub, Nat.reduceLeDiff, Nat.reduceLT, reduceCtorEq]
    refine aw_block ?_  -- 6
    refine aw_lph (S := {s : Nat × Bool // s.1 ≤ d.2.2.1.length ∧ s.2 = (Lb && maksF (tr Kc) d.2.1.1 e.2.1.1 (d.2.2.1.take s.1) (e.2.2.1.take s.1))}) (fun s => [(4, .ptr b4 0), (5, .ptr b5 0), (6, .ptr b6 0), (7, .ptr b7 0), (9, .map b19), (12, .bool turned), (13, .str n), (15, .ptr b15 0), (16, .ptr b16 0), (17, .bool s.1.2), (18, .int .i64 ((s.1.1 : Nat) : Int)), (38, .ptr i1 0)]) (fun _ => G1) (fun s => d.2.2.1.length - s.1.1) ⟨(0, Lb), Nat.zero_le _, by simp [maksF]⟩ ?_ (fun _ _ h => h) ?_
    · simp only [go_sem, reduceIte, Nat.reduceEqDiff, Nat.reduceAdd, Nat.reduceMul, Nat.reduceSub, Nat.reduceLeDiff, Nat.reduceLT, reduceCtorEq, Int.natCast_zero]
    intro ⟨⟨k, ok⟩, hk1, hk2⟩
    simp only at hk1 hk2 ⊢
    refine aw_seq fun K11 hK11 => ?_
    refine aw_sr rfl ?_  -- r17 @picks.go:345
    cases ok with
    | false =>
      simp only [go_sem, reduceIte, Nat.reduceEqDiff, Nat.reduceAdd, Nat.reduceMul, Nat.reduceSub, Nat.reduceLeDiff, Nat.reduceLT, reduceCtorEq, h15, List.length_map, true_imp_iff, false_imp_iff, Bool.false_eq_true]
      repeat' first
        | (refine sm.goG_off fun v => ?_
           simp only [go_sem, reduceIte, Nat.reduceEqDiff, Nat.reduceAdd, Nat.reduceMul, Nat.reduceSub, Nat.reduceLeDiff, Nat.reduceLT, reduceCtorEq, h15, List.length_map, true_imp_iff, false_imp_iff, Bool.false_eq_true])
      refine aw_if rfl (fun h => by cases h) (fun h => ?_)
      refine aw_exit ?_  -- 6
      have hda : datF (tr Kc) d e = false := by
        cases Lb with
        | false => exact hlb false rfl rfl
        | true =>
          rw [Bool.true_and] at hk2
          cases hm : maksF (tr Kc) d.2.1.1 e.2.1.1 d.2.2.1 e.2.2.1 with
          | false => rw [datF, hm, Bool.and_false]
          | true => rw [maksF_take1 k hm] at hk2; cases hk2
      rw [hda]
      exact ⟨⟨rfl, rfl, rfl, rfl, rfl, rfl, rfl, rfl, rfl⟩, rfl⟩
    | true =>
    have hLt : Lb = true := by cases Lb with | true => rfl | false => cases hk2
    rw [hLt] at hLb hk2
    rw [Bool.true_and] at hk2
    rw [Bool.and_eq_true, decide_eq_true_eq, decide_eq_true_eq] at hLb
    by_cases hkl : k < d.2.2.1.length
    · have dk : decide ((k : Int) < (d.2.2.1.length : Int)) = true := decide_eq_true (by omega)
      have hkl2 : k < e.2.2.1.length := by omega
      simp only [go_sem, reduceIte, Nat.reduceEqDiff, Nat.reduceAdd, Nat.reduceMul, Nat.reduceSub, Nat.reduceLeDiff, Nat.reduceLT, reduceCtorEq, h15, List.length_map, dk, true_imp_iff]
      refine aw_if rfl (fun h => ?_) (fun h => by cases h)
      refine aw_skip (hK11 _ _ ?_)
      refine aw_seq fun K12 hK12 => ?_
      refine aw_block ?_  -- 7
      have om := od.2.2.2.2 _ (List.getElem_mem hkl)
      have htk := maksF_take (al := tr Kc) (x := d.2.1.1) (y := e.2.1.1) hkl hkl2
      rw [← hk2, Bool.true_and] at htk
      have hw1 : wid 2 (d.2.2.1.map eMake) := wid_map (g := eMake) (fun _ => rfl) _
      have hw2 : wid 2 (e.2.2.1.map eMake) := wid_map (g := eMake) (fun _ => rfl) _
      have hta := q_typesAlike hmap _ d.2.2.1[k].2.1 e.2.2.1[k].2.1 d.2.1 e.2.1 d.2.2.1[k].2.2 e.2.2.1[k].2.2 .no .no .no .no (Nat.le_refl _) om.2.2.2 om.2.len od.2.1.2.1 hLb.1 (m := b19)
      refine aw_rgd [(0,true),(1,true),(2,true),(3,true),(4,true),(5,true),(6,true),(7,true),(8,true),(9,true),(10,true),(11,true),(12,true),(13,true),(14,true),(15,true),(16,true),(17,true),(18,true),(19,true),(20,true),(21,true),(22,true),(23,true),(24,true),(25,true),(26,true),(27,true),(28,true),(29,true),(30,true),(31,true),(32,true),(33,true)] mixed rfl (by kernel_rfl) ?_  -- r19
      simp only [go_sem, reduceIte, Nat.reduceEqDiff, Nat.reduceAdd, Nat.reduceMul, Nat.reduceSub, Nat.reduceLeDiff, Nat.reduceLT, reduceCtorEq, h15, h16, getD_map hkl, getD_map hkl2, e196]
      refine ⟨⟨by omega, by omega, hw1⟩, ⟨by omega, by omega, hw2⟩, fun _ => ⟨by omega, by omega, hw1⟩, fun _ => ⟨by omega, by omega, hw2⟩, ?_⟩
      refine goQg_on (fun hg => qonO hta hr3 hmap.not_top) ?_
      simp only [go_sem, reduceIte, Nat.reduceEqDiff, Nat.reduceAdd, Nat.reduceMul, Nat.reduceSub, Nat.reduceLeDiff, Nat.reduceLT, reduceCtorEq]
      refine hK12 _ _ ?_
      refine aw_rg rfl ?_  -- r18 @picks.go:345
      simp only [go_sem, reduceIte, Nat.reduceEqDiff, Nat.reduceAdd, Nat.reduceMul, Nat.reduceSub, Nat.reduceLeDiff, Nat.reduceLT, reduceCtorEq, wrap64 (show -9223372036854775808 ≤ (k : Int) + 1 by omega) (show (k : Int) + 1 ≤ 9223372036854775807 by omega)]
      refine ⟨⟨(k + 1, makF (tr Kc) d.2.1.1 e.2.1.1 d.2.2.1[k] e.2.2.1[k]), by simp only; omega, ?_⟩, by simp only; omega, ?_, sub_rfl⟩
      · simp only
        rw [htk, hLt]; rfl
      · simp only [go_sem, reduceIte, Nat.reduceEqDiff, Nat.reduceAdd, Nat.reduceMul, Nat.reduceSub, Nat.reduceLeDiff, Nat.reduceLT, reduceCtorEq, makF]
        rw [Int.natCast_succ]
    · have dk : decide ((k : Int) < (d.2.2.1.length : Int)) = false := decide_eq_false (by omega)
      simp only [go_sem, reduceIte, Nat.reduceEqDiff, Nat.reduceAdd, Nat.reduceMul, Nat.reduceSub, Nat.reduceLeDiff, Nat.reduceLT, reduceCtorEq, h15, List.length_map, dk, true_imp_iff]
      refine aw_if rfl (fun h => by cases h) (fun h => ?_)
      refine aw_exit ?_  -- 6
      have hke : k = d.2.2.1.length := by omega
      have hda : datF (tr Kc) d e = true := by
        rw [hke, List.take_length, hLb.2, List.take_length] at hk2
        rw [datF, ← hk2, decide_eq_true hLb.1]; rfl
      rw [hda]
      exact ⟨⟨rfl, rfl, rfl, rfl, rfl, rfl, rfl, rfl, rfl⟩, rfl⟩
  intro f' G' ⟨hf, hg⟩
  rw [hg]
  refine AW.of_fsub hf ?_
  clear hf hg
  refine aw_sr rfl ?_  -- r20 @picks.go:348
  simp only [go_sem, reduceIte, Nat.reduceEqDiff, Nat.reduceAdd, Nat.reduceMul, Nat.reduceSub, Nat.reduceLeDiff, Nat.reduceLT, reduceCtorEq]
  cases hda : datF (tr Kc) d e with
  | false =>
    have hbig : big p q n = false := by
      cases hb : big p q n with
      | false => rfl
      | true =>
        have := okD_mono hRc.le (big_post p q n hb)
        rw [hok, hda] at this; cases this
    obtain ⟨jj, hjj, hf, hpt⟩ := put_at n false Kc 0 hin
    rw [Nat.zero_add] at hf
    have hcnt := cnt_put n hlkj
    refine aw_if rfl (fun h => ?_) (fun h => by cases h)
    refine aw_sr rfl ?_  -- r21 @picks.go:349
    simp only [go_sem, reduceIte, Nat.reduceEqDiff, Nat.reduceAdd, Nat.reduceMul, Nat.reduceSub, Nat.reduceLeDiff, Nat.reduceLT, reduceCtorEq, hr3, hf, hpt]
    refine aw_rg rfl ?_  -- r22 @picks.go:350
    simp only [go_sem, reduceIte, Nat.reduceEqDiff, Nat.reduceAdd, Nat.reduceMul, Nat.reduceSub, Nat.reduceLeDiff, Nat.reduceLT, reduceCtorEq]
    refine ⟨⟨⟨putK Kc n false, true, todo.erase j, some j, _⟩, hSF.fr fr_hset hr3 (fun _ e => by cases e) n19, hset_keep hi1 n119, hget_hset_self hr3, hRc.put hin hbig, (put_same n false hin).trans hks, (by simp only; omega), fun _ => (by simp only; omega), fun e => (by cases e)⟩, hlen, ?_, sub_rfl⟩
    simp only [go_sem, reduceIte, Nat.reduceEqDiff, Nat.reduceAdd, Nat.reduceMul, Nat.reduceSub, Nat.reduceLeDiff, Nat.reduceLT, reduceCtorEq]
  | true =>
    refine aw_if rfl (fun h => by cases h) (fun h => ?_)
    refine aw_skip ⟨⟨⟨Kc, turned, todo.erase j, some j, G1⟩, hSF, hi1, hr3, hRc, hks, hc1, hc2, fun ht => ⟨(hc3 ht).1, fun i hi hn hv => ?_⟩⟩, hlen, ?_, sub_rfl⟩
    · rcases hout i hn with rfl | hn
      · have h1 := (hc3 ht).1
        rw [hKj ht h1 hi]
        rw [← h1, hok]; exact hda
      · exact (hc3 ht).2 i hi hn hv
    · simp only [go_sem, reduceIte, Nat.reduceEqDiff, Nat.reduceAdd, Nat.reduceMul, Nat.reduceSub, Nat.reduceLeDiff, Nat.reduceLT, reduceCtorEq]
end Go.Proofs.Ytclmcpbanaojfaa

/- Actors of a program, types copied, types compared: what the law asks beside. -/
set_option linter.unusedSimpArgs false
set_option linter.unusedVariables false
namespace Go.Proofs.Ytclmcpbanaojfaa
open Go.Proofs.YtclmcpbanaojfaaV
set_option maxHeartbeats 4000000
set_option maxRecDepth 100000
abbrev Acr := D42
abbrev eAcr := e42
theorem q_IndexAcr (H0 : Heap) (F : FuncId) (us ws : List V) (f : Acr → Bool) (xs : List Acr) (nl : Bool) (t : Tag) (hx : (xs.length : Int) ≤ 9223372036854775807)
    (hF : ∀ a ∈ xs, QuietOn Try.prog H0 F (us ++ [.agg (eAcr a)] ++ ws) (.bool (f a))) :
    QuietOn Try.prog H0 16 [.sl (xs.map eAcr) nl t, .func (.func F) us ws] (.int .i64 (ixI (xs.findIdx? f))) := by
  intro G hG
  refine acall_body (rs := [.tmp 4]) Try.func16 rfl rfl Try.ntmps16 (by kernel_rfl) (Nat.le_of_ble_eq_true rfl) ?_
  refine aw_sr rfl ?_
  simp only [go_sem, reduceIte, Nat.reduceEqDiff, Nat.reduceAdd, Nat.reduceMul, Nat.reduceSub, Nat.reduceLeDiff, Nat.reduceLT, reduceCtorEq]
  refine aw_seq fun K1 hK1 => ?_
  refine aw_sr rfl ?_
  simp only [go_sem, reduceIte, Nat.reduceEqDiff, Nat.reduceAdd, Nat.reduceMul, Nat.reduceSub, Nat.reduceLeDiff, Nat.reduceLT, reduceCtorEq]
  refine aw_range xs.length (S := {H : Heap // H = G}) (fun _ _ => [(0, .sl (xs.map eAcr) nl t), (1, .func (.func F) us ws)]) (fun _ s => s.1) (fun i _ => ∀ j (h : j < xs.length), j < i → f xs[j] = false) ⟨G, rfl⟩ hx ?_ (fun _ _ h => h) (fun j _ h => absurd h (by omega)) rfl (fun _ _ => rfl) ?_ ?_ (by decide)
  · simp only [go_sem, reduceIte, Nat.reduceEqDiff, Nat.reduceAdd, Nat.reduceMul, Nat.reduceSub, Nat.reduceLeDiff, Nat.reduceLT, reduceCtorEq, Int.natCast_zero]
  · intro i ⟨H, hH⟩ hi he
    subst hH
    refine aw_sr rfl ?_
    simp only [go_sem, reduceIte, Nat.reduceEqDiff, Nat.reduceAdd, Nat.reduceMul, Nat.reduceSub, Nat.reduceLeDiff, Nat.reduceLT, reduceCtorEq]
    refine aw_sr rfl ?_
    simp only [go_sem, reduceIte, Nat.reduceEqDiff, Nat.reduceAdd, Nat.reduceMul, Nat.reduceSub, Nat.reduceLeDiff, Nat.reduceLT, reduceCtorEq, getD_map hi, e42]
    refine ⟨⟨by omega, by omega, wid_map (g := eAcr) (fun _ => by simp [e42]) _⟩, ?_⟩
    have hq := hF _ (List.getElem_mem hi)
    refine goA_on hq hG ?_
    simp only [go_sem, reduceIte, Nat.reduceEqDiff, Nat.reduceAdd, Nat.reduceMul, Nat.reduceSub, Nat.reduceLeDiff, Nat.reduceLT, reduceCtorEq]
    refine aw_if rfl (fun h => ?_) (fun h => ?_)
    · refine aw_sr rfl ?_
      simp only [go_sem, reduceIte, Nat.reduceEqDiff, Nat.reduceAdd, Nat.reduceMul, Nat.reduceSub, Nat.reduceLeDiff, Nat.reduceLT, reduceCtorEq]
      refine aw_ret ⟨trivial, _, rfl, ?_, rfl⟩
      rw [ixI_at hi h (fun j hj => he j (by omega) hj)]
      rfl
    · refine aw_skip ⟨⟨H, rfl⟩, fun j hj hlt => ?_, ?_, fun _ _ h => h⟩
      · by_cases e : j = i
        · subst e; exact h
        · exact he j hj (by omega)
      simp only [go_sem, reduceIte, Nat.reduceEqDiff, Nat.reduceAdd, Nat.reduceMul, Nat.reduceSub, Nat.reduceLeDiff, Nat.reduceLT, reduceCtorEq]
  · intro ⟨H, hH⟩ he
    subst hH
    refine hK1 _ _ ?_
    refine aw_sr rfl ?_
    simp only [go_sem, reduceIte, Nat.reduceEqDiff, Nat.reduceAdd, Nat.reduceMul, Nat.reduceSub, Nat.reduceLeDiff, Nat.reduceLT, reduceCtorEq]
    refine aw_ret ⟨trivial, _, rfl, ?_, rfl⟩
    rw [ixI_none (fun j hj => he j hj hj)]
    rfl
theorem q_EqNms (xs ys : List (List UInt8)) (n1 n2 : Bool) (t1 t2 : Tag) (hx : (xs.length : Int) ≤ 9223372036854775807) : Quiet Try.prog 19 [.sl (xs.map eNm) n1 t1, .sl (ys.map eNm) n2 t2] (.bool (decide (xs = ys))) := by
  intro G
  refine acall_body (rs := [.tmp 4]) Try.func19 rfl rfl Try.ntmps19 (by kernel_rfl) (Nat.le_of_ble_eq_true rfl) ?_
  refine aw_sr rfl ?_
  simp only [go_sem, reduceIte, Nat.reduceEqDiff, Nat.reduceAdd, Nat.reduceMul, Nat.reduceSub, Nat.reduceLeDiff, Nat.reduceLT, reduceCtorEq]
  refine aw_seq fun K2 hK2 => ?_
  refine aw_sr rfl ?_
  simp only [go_sem, reduceIte, Nat.reduceEqDiff, Nat.reduceAdd, Nat.reduceMul, Nat.reduceSub, Nat.reduceLeDiff, Nat.reduceLT, reduceCtorEq]
  refine aw_if rfl (fun h => ?_) (fun h => ?_)
  · refine aw_sr rfl ?_
    simp only [go_sem, reduceIte, Nat.reduceEqDiff, Nat.reduceAdd, Nat.reduceMul, Nat.reduceSub, Nat.reduceLeDiff, Nat.reduceLT, reduceCtorEq]
    refine aw_ret ⟨trivial, _, rfl, ?_⟩
    simp only [decide_eq_true_eq, ne_eq, Int.natCast_inj] at h
    refine ⟨?_, rfl⟩
    rw [decide_eq_false (fun e => h (by rw [e]))]
    rfl
  · refine aw_skip (hK2 _ _ ?_)
    have hl : xs.length = ys.length := by simpa [Int.natCast_inj] using h
    refine aw_seq fun K3 hK3 => ?_
    refine aw_sr rfl ?_
    simp only [go_sem, reduceIte, Nat.reduceEqDiff, Nat.reduceAdd, Nat.reduceMul, Nat.reduceSub, Nat.reduceLeDiff, Nat.reduceLT, reduceCtorEq]
    refine aw_range xs.length (S := Unit) (fun _ _ => [(0, .sl (xs.map eNm) n1 t1), (1, .sl (ys.map eNm) n2 t2)]) (fun _ _ => G) (fun i _ => xs.take i = ys.take i) () hx ?_ (fun _ _ h => h) rfl rfl (fun _ _ => rfl) ?_ ?_ (by decide)
    · simp only [go_sem, reduceIte, Nat.reduceEqDiff, Nat.reduceAdd, Nat.reduceMul, Nat.reduceSub, Nat.reduceLeDiff, Nat.reduceLT, reduceCtorEq]
    · intro i _ hi he
      refine aw_sr rfl ?_
      simp only [go_sem, reduceIte, Nat.reduceEqDiff, Nat.reduceAdd, Nat.reduceMul, Nat.reduceSub, Nat.reduceLeDiff, Nat.reduceLT, reduceCtorEq]
      refine aw_srd [(0,true),(1,true),(2,true),(3,true),(4,true),(5,true),(6,true),(7,true),(8,true)] mixed rfl (by kernel_rfl) ?_
      simp only [go_sem, reduceIte, Nat.reduceEqDiff, Nat.reduceAdd, Nat.reduceMul, Nat.reduceSub, Nat.reduceLeDiff, Nat.reduceLT, reduceCtorEq, getD_map hi, getD_map (hl ▸ hi), eNm]
      refine ⟨⟨by omega, by omega, wid_map (g := eNm) (fun _ => rfl) _⟩, ⟨by omega, by omega, wid_map (g := eNm) (fun _ => rfl) _⟩, ?_⟩
      refine aw_if rfl (fun h => ?_) (fun h => ?_)
      · refine aw_sr rfl ?_
        simp only [go_sem, reduceIte, Nat.reduceEqDiff, Nat.reduceAdd, Nat.reduceMul, Nat.reduceSub, Nat.reduceLeDiff, Nat.reduceLT, reduceCtorEq]
        refine aw_ret ⟨trivial, _, rfl, ?_⟩
        refine ⟨?_, rfl⟩
        have h : ¬ xs[i] = ys[i]'(hl ▸ hi) := by simpa using h
        rw [decide_eq_false (fun e => h (by subst e; rfl))]
        rfl
      · have h : xs[i] = ys[i]'(hl ▸ hi) := by simpa using h
        refine aw_skip ⟨(), ?_, ?_, fun _ _ h => h⟩
        · rw [List.take_succ_eq_append_getElem hi, List.take_succ_eq_append_getElem (hl ▸ hi), he, h]
        · simp only [go_sem, reduceIte, Nat.reduceEqDiff, Nat.reduceAdd, Nat.reduceMul, Nat.reduceSub, Nat.reduceLeDiff, Nat.reduceLT, reduceCtorEq]
    · intro _ he
      refine hK3 _ _ ?_
      refine aw_sr rfl ?_
      simp only [go_sem, reduceIte, Nat.reduceEqDiff, Nat.reduceAdd, Nat.reduceMul, Nat.reduceSub, Nat.reduceLeDiff, Nat.reduceLT, reduceCtorEq]
      refine aw_ret ⟨trivial, _, rfl, ?_⟩
      rw [List.take_length, hl, List.take_length] at he
      subst he
      rw [decide_eq_true rfl]
      exact ⟨rfl, rfl⟩
inductive Eqv : Ex → Ex → Prop
  | mk {x y : Ex} (hk : x.kind = y.kind) (hn : x.num = y.num) (ht : x.text = y.text) (hnm : x.names.1 = y.names.1) (hty : x.types.1 = y.types.1) (hl : x.args.length = y.args.length) (ha : ∀ i (h1 : i < x.args.length) (h2 : i < y.args.length), Eqv x.args[i] y.args[i]) (hml : x.arms.length = y.arms.length) (hp : ∀ i (h1 : i < x.arms.length) (h2 : i < y.arms.length), x.arms[i].pat = y.arms[i].pat) (hm : ∀ i (h1 : i < x.arms.length) (h2 : i < y.arms.length), Eqv x.arms[i].body y.arms[i].body) : Eqv x y
namespace sm
theorem wid_eAcr (l : List Acr) : wid 14 (l.map eAcr) := wid_map (g := eAcr) (fun _ => rfl) _
mutual
def cpT : Typ → Typ | .mk k n ar nl => .mk k n (cpTs ar) ar.isEmpty
def cpTs : List Typ → List Typ | [] => [] | v :: vs => cpT v :: cpTs vs
end
theorem cpTs_map : ∀ l, cpTs l = l.map cpT
  | [] => rfl
  | v :: vs => by rw [cpTs, cpTs_map vs]; rfl
theorem cp_eq (t : Typ) : cpT t = .mk t.kind t.name (t.args.map cpT) t.args.isEmpty := by cases t; rw [cpT, cpTs_map]; rfl
theorem cCp (t : Typ) : cTyp (cpT t) = [.int .i64 t.kind, .str t.name, .sl ((t.args.map cpT).map eTyp) t.args.isEmpty .no] := by rw [cp_eq]; rfl
end sm
open sm
theorem q_CloneNm (xs : List N) (nl : Bool) (t : Tag) (hl : xs.length ≤ 1048576) (hnl : nl = true → xs = []) : Quiet Try.prog 89 [.sl (xs.map eNm) nl t] (.sl (xs.map eNm) nl .no) := by
  refine Quiet.weak fun G => ?_
  refine acall_body (rs := [.tmp 2]) Try.func89 rfl rfl Try.ntmps89 (by kernel_rfl) (Nat.le_of_ble_eq_true rfl) ?_
  refine aw_sr rfl ?_
  simp only [go_sem, reduceIte, Nat.reduceEqDiff, Nat.reduceAdd, Nat.reduceMul, Nat.reduceSub, Nat.reduceLeDiff, Nat.reduceLT, reduceCtorEq]
  refine aw_seq fun K1 hK1 => ?_
  refine aw_sr rfl ?_
  simp only [go_sem, reduceIte, Nat.reduceEqDiff, Nat.reduceAdd, Nat.reduceMul, Nat.reduceSub, Nat.reduceLeDiff, Nat.reduceLT, reduceCtorEq]
  refine aw_if rfl (fun h => ?_) (fun h => ?_)
  · refine aw_sr rfl ?_
    simp only [go_sem, reduceIte, Nat.reduceEqDiff, Nat.reduceAdd, Nat.reduceMul, Nat.reduceSub, Nat.reduceLeDiff, Nat.reduceLT, reduceCtorEq]
    refine aw_ret ⟨trivial, _, rfl, ?_, sub_rfl⟩
    rw [hnl h, h]; exact Vle.untag
  refine aw_skip (hK1 _ _ ?_)
  refine aw_sr rfl ?_
  simp only [go_sem, reduceIte, Nat.reduceEqDiff, Nat.reduceAdd, Nat.reduceMul, Nat.reduceSub, Nat.reduceLeDiff, Nat.reduceLT, reduceCtorEq]
  refine goP_rm (G := G) (Rm.start _ _ _) sub_rfl ?_ fun t1 H1 hr1 hs1 hg1 => ?_
  · exact ⟨rfl, rfl, by decide, by simp [wid], wid_eNm' _, sca_map (g := eNm) (fun a x hx => by simp [eNm] at hx; subst hx; rfl) _, by simp; omega, by simp; omega⟩
  simp only [go_sem, reduceIte, Nat.reduceEqDiff, Nat.reduceAdd, Nat.reduceMul, Nat.reduceSub, Nat.reduceLeDiff, Nat.reduceLT, reduceCtorEq]
  refine aw_ret ⟨trivial, _, rfl, ?_, hs1⟩
  have h : nl = false := by simpa using h
  rw [h]
  exact Vle.untag
theorem q_typesC (l : List Typ) (nl : Bool) (t : Tag) (hl : l.length ≤ 1048576) (h : ∀ a ∈ l, Quiet Try.prog 91 [.agg (cTyp a)] (.agg (cTyp (cpT a)))) : Quiet Try.prog 90 [.sl (l.map eTyp) nl t] (.sl ((l.map cpT).map eTyp) l.isEmpty .no) := by
  refine Quiet.weak fun G => ?_
  refine acall_body (rs := [.tmp 2]) Try.func90 rfl rfl Try.ntmps90 (by kernel_rfl) (Nat.le_of_ble_eq_true rfl) ?_
  refine aw_sr rfl ?_  -- r0 @shape.go:237
  simp only [go_sem, reduceIte, Nat.reduceEqDiff, Nat.reduceAdd, Nat.reduceMul, Nat.reduceSub, Nat.reduceLeDiff, Nat.reduceLT, reduceCtorEq]
  refine aw_sr rfl ?_  -- r1 @shape.go:238
  simp only [go_sem, reduceIte, Nat.reduceEqDiff, Nat.reduceAdd, Nat.reduceMul, Nat.reduceSub, Nat.reduceLeDiff, Nat.reduceLT, reduceCtorEq]
  refine aw_seq fun K1 hK1 => ?_
  refine aw_sr rfl ?_  -- r2 @shape.go:239
  simp only [go_sem, reduceIte, Nat.reduceEqDiff, Nat.reduceAdd, Nat.reduceMul, Nat.reduceSub, Nat.reduceLeDiff, Nat.reduceLT, reduceCtorEq]
  refine aw_range l.length (S := Tag × Heap) (fun i s => [(3, .sl (((l.take i).map cpT).map eTyp) (l.take i).isEmpty s.1), (6, .sl (l.map eTyp) nl t)]) (fun _ s => s.2) (fun i s => Rm G s.2 3 s.1 ∧ Sub G s.2) (.full, G) (by omega) ?_ (fun _ _ h => h) ⟨Rm.start _ _ _, sub_rfl⟩ rfl (fun _ _ => rfl) ?_ ?_ (by decide)
  · simp only [go_sem, reduceIte, Nat.reduceEqDiff, Nat.reduceAdd, Nat.reduceMul, Nat.reduceSub, Nat.reduceLeDiff, Nat.reduceLT, reduceCtorEq, Int.natCast_zero, List.take_zero, List.map_nil, List.isEmpty_nil]
  · intro i ⟨t4, H⟩ hi ⟨hr, hs⟩
    simp only at hr hs ⊢
    have htk : l.take (i + 1) = l.take i ++ [l[i]] := List.take_succ_eq_append_getElem hi
    have hq := h _ (List.getElem_mem hi)
    refine aw_sr rfl ?_  -- r4 @shape.go:239
    simp only [go_sem, reduceIte, Nat.reduceEqDiff, Nat.reduceAdd, Nat.reduceMul, Nat.reduceSub, Nat.reduceLeDiff, Nat.reduceLT, reduceCtorEq, getD_map hi, eTyp_eq, cTyp]
    refine ⟨⟨by omega, by omega, wid_eTyp _⟩, ?_⟩
    generalize l[i] = a at htk hq
    intro b5 hb5
    refine aw_box1 hb5 fun B1 hs1 h5 => ?_
    replace hr := hr.sub hs1
    replace hs := sub_trans hs hs1
    refine aw_rg rfl ?_  -- r5 @shape.go:240
    simp only [go_sem, reduceIte, Nat.reduceEqDiff, Nat.reduceAdd, Nat.reduceMul, Nat.reduceSub, Nat.reduceLeDiff, Nat.reduceLT, reduceCtorEq, h5]
    refine goA_q hq ?_
    simp only [go_sem, reduceIte, Nat.reduceEqDiff, Nat.reduceAdd, Nat.reduceMul, Nat.reduceSub, Nat.reduceLeDiff, Nat.reduceLT, reduceCtorEq, cTyp]
    refine goP_rm (G := G) hr hs ?_ fun t6 H6 hr6 hs6 hg6 => ?_
    · exact ⟨rfl, rfl, by decide, wid_eTyp _, wid_one rfl, by simp [sca, scalarV], by simp; omega, by simp; omega⟩
    simp only [go_sem, reduceIte, Nat.reduceEqDiff, Nat.reduceAdd, Nat.reduceMul, Nat.reduceSub, Nat.reduceLeDiff, Nat.reduceLT, reduceCtorEq]
    refine ⟨(t6, H6), ⟨hr6, hs6⟩, ?_, sub_rfl⟩
    have hie : (l.take i ++ [a]).isEmpty = false := by cases l.take i <;> rfl
    rw [htk, hie, List.map_append, List.map_append, List.map_cons, List.map_nil, List.map_cons, List.map_nil, eTyp_eq]
    exact ⟨rfl, rfl, rfl, rfl⟩
  intro ⟨t4, H⟩ ⟨hr, hs⟩
  simp only at hr hs ⊢
  rw [List.take_length]
  refine hK1 _ _ ?_
  refine aw_sr rfl ?_  -- r7 @shape.go:242
  simp only [go_sem, reduceIte, Nat.reduceEqDiff, Nat.reduceAdd, Nat.reduceMul, Nat.reduceSub, Nat.reduceLeDiff, Nat.reduceLT, reduceCtorEq]
  exact aw_ret ⟨trivial, _, rfl, Vle.untag, hs⟩
theorem q_copied : ∀ (n : Nat) (t : Typ), t.sz ≤ n → OkTyp t → Quiet Try.prog 91 [.agg (cTyp t)] (.agg (cTyp (cpT t))) := by
  intro n
  induction n with
  | zero => intro t h; have := t.sz_eq; omega
  | succ n ih =>
  intro t hn ht
  have hT := q_typesC t.args t.nl .no ht.len fun a ha => ih a (by have := Typ.sz_args ha; omega) (ht.arg ha)
  refine Quiet.weak fun G => ?_
  refine acall_body (rs := [.cell 2 32]) Try.func91 rfl rfl Try.ntmps91 (by kernel_rfl) (Nat.le_of_ble_eq_true rfl) ?_
  refine aw_sr rfl ?_  -- r0 @shape.go:232
  simp only [go_sem, reduceIte, Nat.reduceEqDiff, Nat.reduceAdd, Nat.reduceMul, Nat.reduceSub, Nat.reduceLeDiff, Nat.reduceLT, reduceCtorEq]
  intro b1 hb1 b2 hb2
  obtain ⟨_, hb2'⟩ := fresh_cons hb2
  refine aw_box2 hb1 hb2 fun B1 hs1 h1 h2 _ _ => ?_
  refine aw_srd [(0,true),(1,true),(2,true),(3,true),(4,true),(5,true),(6,true),(7,true),(8,false)] mixed rfl (by kernel_rfl) ?_  -- r1 @shape.go:233
  simp only [go_sem, reduceIte, Nat.reduceEqDiff, Nat.reduceAdd, Nat.reduceMul, Nat.reduceSub, Nat.reduceLeDiff, Nat.reduceLT, reduceCtorEq, h1, h2, cTyp]
  refine goQ_by hT ?_
  simp only [go_sem, reduceIte, Nat.reduceEqDiff, Nat.reduceAdd, Nat.reduceMul, Nat.reduceSub, Nat.reduceLeDiff, Nat.reduceLT, reduceCtorEq, h1, h2]
  refine aw_ret ⟨trivial, ?_⟩
  simp only [go_sem, reduceIte, Nat.reduceEqDiff, Nat.reduceAdd, Nat.reduceMul, Nat.reduceSub, Nat.reduceLeDiff, Nat.reduceLT, reduceCtorEq, resL, resOf, hget_hset_self h2]
  refine ⟨_, rfl, ?_, sub_hset_fresh hb2' hs1⟩
  rw [cp_eq]; exact Vle.refl _
/-! ### Types compared -/
theorem q_EqTrueT (F : FuncId) (xs ys : List Typ) (n1 n2 : Bool) (t1 t2 : Tag) (hx : (xs.length : Int) ≤ 9223372036854775807) (hl : xs.length = ys.length) (hF : ∀ i (hi : i < xs.length) (hj : i < ys.length), Quiet Try.prog F [.agg (cTyp xs[i]), .agg (cTyp ys[i])] (.bool true)) :
    Quiet Try.prog 20 [.sl (xs.map eTyp) n1 t1, .sl (ys.map eTyp) n2 t2, .func (.func F) [] []] (.bool true) := by
  refine Quiet.weak fun G => ?_
  refine (a_EqualT F [] [] xs ys n1 n2 t1 t2 (fun _ H => Sub G H) (fun r H => r = true ∧ Sub G H) G hx (fun h => absurd hl h) (fun _ => sub_rfl) (fun _ _ _ h1 h2 => sub_trans h1 h2) (fun i hi hj H hH => ?_) (fun H _ hH => ⟨rfl, hH⟩)).mono fun y H ⟨r, h1, h2, h3⟩ => ⟨by rw [h1, h2]; exact Vle.refl _, h3⟩
  refine (hF i hi hj H).mono fun y H' ⟨h1, h2⟩ => ⟨true, h1, fun _ => by rw [h2]; exact hH, fun e => by cases e⟩
theorem q_sameT : ∀ (n : Nat) (t : Typ), t.sz ≤ n → OkTyp t → Quiet Try.prog 21 [.agg (cTyp (cpT t)), .agg (cTyp t)] (.bool true) := by
  intro n
  induction n with
  | zero => intro t h; have := t.sz_eq; omega
  | succ n ih =>
  intro t hn ht
  have hl := ht.len
  have hE := q_EqTrueT 21 (t.args.map cpT) t.args t.args.isEmpty t.nl .no .no (by rw [List.length_map]; have : t.args.length ≤ 1048576 := hl; omega) (by simp) (fun i hi hj => by rw [List.getElem_map]; exact ih _ (by have := Typ.sz_args (List.getElem_mem hj); omega) (ht.arg (List.getElem_mem hj)))
  refine Quiet.weak fun G => ?_
  refine acall_body (rs := [.tmp 4]) Try.func21 rfl rfl Try.ntmps21 (by kernel_rfl) (Nat.le_of_ble_eq_true rfl) ?_
  refine aw_sr rfl ?_  -- r0 @high.go:128
  simp only [go_sem, reduceIte, Nat.reduceEqDiff, Nat.reduceAdd, Nat.reduceMul, Nat.reduceSub, Nat.reduceLeDiff, Nat.reduceLT, reduceCtorEq, cCp]
  intro b2 hb2 b3 hb3
  refine aw_box2 hb2 hb3 fun B1 hs1 h2 h3 _ _ => ?_
  refine aw_sr rfl ?_  -- r1 @high.go:129
  simp only [go_sem, reduceIte, Nat.reduceEqDiff, Nat.reduceAdd, Nat.reduceMul, Nat.reduceSub, Nat.reduceLeDiff, Nat.reduceLT, reduceCtorEq, h2, h3]
  refine goH_q (fun hg => hE) ?_
  simp only [go_sem, reduceIte, Nat.reduceEqDiff, Nat.reduceAdd, Nat.reduceMul, Nat.reduceSub, Nat.reduceLeDiff, Nat.reduceLT, reduceCtorEq]
  refine aw_ret ⟨trivial, _, rfl, ?_, hs1⟩
  first | exact Vle.refl _ | (simp; exact Vle.refl _)
/-! ### Actors -/
theorem q_Actor1 (a : Acr) (b : Nat) (s : N) : QuietOn Try.prog [(b, .vars [.str s])] 88 ([] ++ [.agg (eAcr a)] ++ [.ptr b 0]) (.bool (decide (a.1 = s))) := by
  refine QuietOn.weak fun G hG => ?_
  have hg : hget G b = some (.vars [.str s]) := hG _ _ (hget_self _ _ _)
  refine acall_body (rs := [.tmp 3]) Try.func88 rfl rfl Try.ntmps88 (by kernel_rfl) (Nat.le_of_ble_eq_true rfl) ?_
  refine aw_sr rfl ?_
  simp only [go_sem, reduceIte, Nat.reduceEqDiff, Nat.reduceAdd, Nat.reduceMul, Nat.reduceSub, Nat.reduceLeDiff, Nat.reduceLT, reduceCtorEq, e42]
  intro b2 hb
  have hne : ¬ b2 = b := by intro e; subst e; rw [hg] at hb; cases hb
  refine aw_sr rfl ?_
  simp only [go_sem, reduceIte, Nat.reduceEqDiff, Nat.reduceAdd, Nat.reduceMul, Nat.reduceSub, Nat.reduceLeDiff, Nat.reduceLT, reduceCtorEq, hne, hg]
  exact aw_ret ⟨trivial, _, rfl, Vle.refl _, hsub_at hb⟩
theorem q_law1 (a x : Acr) (b : Nat) : QuietOn Try.prog [(b, .vars (eAcr x))] 17 ([] ++ [.agg (eAcr a)] ++ [.ptr b 0]) (.bool (decide (a.1 = x.1))) := by
  refine QuietOn.weak fun G hG => ?_
  have hg : hget G b = some (.vars (eAcr x)) := hG _ _ (hget_self _ _ _)
  refine acall_body (rs := [.tmp 3]) Try.func17 rfl rfl Try.ntmps17 (by kernel_rfl) (Nat.le_of_ble_eq_true rfl) ?_
  refine aw_sr rfl ?_
  simp only [go_sem, reduceIte, Nat.reduceEqDiff, Nat.reduceAdd, Nat.reduceMul, Nat.reduceSub, Nat.reduceLeDiff, Nat.reduceLT, reduceCtorEq, e42]
  simp only [e42] at hg
  intro b2 hb
  have hne : ¬ b2 = b := by intro e; subst e; rw [hg] at hb; cases hb
  refine aw_sr rfl ?_
  simp only [go_sem, reduceIte, Nat.reduceEqDiff, Nat.reduceAdd, Nat.reduceMul, Nat.reduceSub, Nat.reduceLeDiff, Nat.reduceLT, reduceCtorEq, hne, hg]
  exact aw_ret ⟨trivial, _, rfl, Vle.refl _, hsub_at hb⟩
namespace sm
def acrF (p : Prgm) (s : N) : Option Acr := p.2.2.2.2.2.2.2.1.find? fun d => decide (d.1 = s)
theorem acrF_ix (p : Prgm) (s : N) : (acrF p s = none ∧ p.2.2.2.2.2.2.2.1.findIdx? (fun d => decide (d.1 = s)) = none) ∨ ∃ i, ∃ h : i < p.2.2.2.2.2.2.2.1.length, acrF p s = some p.2.2.2.2.2.2.2.1[i] ∧ p.2.2.2.2.2.2.2.1.findIdx? (fun d => decide (d.1 = s)) = some i := by
  unfold acrF
  cases h : p.2.2.2.2.2.2.2.1.findIdx? (fun d => decide (d.1 = s)) with
  | none => exact .inl ⟨List.find?_eq_none.2 fun x hx => by rw [List.findIdx?_eq_none_iff.1 h x hx]; simp, rfl⟩
  | some i =>
    obtain ⟨hi, h1, h2⟩ := List.findIdx?_eq_some_iff_getElem.1 h
    exact .inr ⟨i, hi, List.find?_eq_some_iff_getElem.2 ⟨h1, i, hi, rfl, fun j hj => by simpa using h2 j hj⟩, rfl⟩
def actC (z : Acr) : List V := [.str z.1, .sl (z.2.1.1.map eNm) z.2.1.2 .no, .sl ((z.2.2.1.1.map cpT).map eTyp) z.2.2.1.1.isEmpty .no, .int .i64 z.2.2.2.1.kind, .str z.2.2.2.1.name, .sl ((z.2.2.2.1.args.map cpT).map eTyp) z.2.2.2.1.args.isEmpty .no, .int .i64 0, .int .i64 0, .str [], .sl [] true .no, .sl [] true .no, .sl [] true .no, .sl [] true .no, .int .i64 0]
def actZ : List V := [.str [], .sl [] true .no, .sl [] true .no, .int .i64 0, .str [], .sl [] true .no, .int .i64 0, .int .i64 0, .str [], .sl [] true .no, .sl [] true .no, .sl [] true .no, .sl [] true .no, .int .i64 0]
def actV : Option Acr → V
  | some z => .tup [.agg (actC z), .bool true]
  | none => .tup [.agg actZ, .bool false]
end sm
theorem q_Actor (p : Prgm) (s : N) (hp : o27 p.2.2.2.2.2.2.2) : Quiet Try.prog 18 [.agg (cPrg p), .str s] (actV (acrF p s)) := by
  have hpl : p.2.2.2.2.2.2.2.1.length ≤ 1048576 := hp.2.1
  refine Quiet.weak fun G => ?_
  refine acall_body (rs := [.cell 4 42, .tmp 5]) Try.func18 rfl rfl Try.ntmps18 (by kernel_rfl) (Nat.le_of_ble_eq_true rfl) ?_
  refine aw_sr rfl ?_  -- r0 @shape.go:223
  simp only [go_sem, reduceIte, Nat.reduceEqDiff, Nat.reduceAdd, Nat.reduceMul, Nat.reduceSub, Nat.reduceLeDiff, Nat.reduceLT, reduceCtorEq, e29]
  intro b2 hb2 b3 hb3 b4 hb4
  obtain ⟨_, hb4'⟩ := fresh_cons hb4
  obtain ⟨_, hb4''⟩ := fresh_cons hb4'
  refine aw_box3 hb2 hb3 hb4 fun B1 hs1 h2 h3 h4 _ _ _ _ _ _ => ?_
  refine aw_sr rfl ?_  -- r1 @shape.go:224
  simp only [go_sem, reduceIte, Nat.reduceEqDiff, Nat.reduceAdd, Nat.reduceMul, Nat.reduceSub, Nat.reduceLeDiff, Nat.reduceLT, reduceCtorEq, h2, h3]
  refine goA_on (q_IndexAcr [(b3, .vars [.str s])] 88 [] [.ptr b3 0] (fun d => decide (d.1 = s)) p.2.2.2.2.2.2.2.1 p.2.2.2.2.2.2.2.2 .no (by omega) fun d _ => q_Actor1 d b3 s) (sub_one h3) ?_
  simp only [go_sem, reduceIte, Nat.reduceEqDiff, Nat.reduceAdd, Nat.reduceMul, Nat.reduceSub, Nat.reduceLeDiff, Nat.reduceLT, reduceCtorEq]
  refine aw_seq fun K2 hK2 => ?_
  refine aw_sr rfl ?_  -- r2 @shape.go:225
  simp only [go_sem, reduceIte, Nat.reduceEqDiff, Nat.reduceAdd, Nat.reduceMul, Nat.reduceSub, Nat.reduceLeDiff, Nat.reduceLT, reduceCtorEq]
  rcases acrF_ix p s with ⟨e1, e2⟩ | ⟨i, hi, e1, e2⟩
  · rw [e1, e2]
    refine aw_if rfl (fun h => ?_) (fun h => by simp [ixI] at h)
    refine aw_sr rfl ?_  -- r3 @shape.go:226
    simp only [go_sem, reduceIte, Nat.reduceEqDiff, Nat.reduceAdd, Nat.reduceMul, Nat.reduceSub, Nat.reduceLeDiff, Nat.reduceLT, reduceCtorEq, h4]
    refine aw_ret ⟨trivial, ?_⟩
    simp only [go_sem, reduceIte, Nat.reduceEqDiff, Nat.reduceAdd, Nat.reduceMul, Nat.reduceSub, Nat.reduceLeDiff, Nat.reduceLT, reduceCtorEq, resL, resOf, hget_hset_self h4]
    refine ⟨_, rfl, ?_, sub_hset_fresh hb4'' hs1⟩
    rw [actV, actZ]
    exact Vle.tupL (.cons (Vle.aggL (by repeat' first | exact .nil | refine .cons (Vle.refl _) ?_ | refine .cons Vle.untag ?_)) (.cons (Vle.refl _) .nil))
  · rw [e1, e2]
    have oz := hp.2.2 _ (List.getElem_mem hi)
    refine aw_if rfl (fun h => absurd (of_decide_eq_true h) (by simp only [ixI]; omega)) (fun h => ?_)
    refine aw_skip (hK2 _ _ ?_)
    have ozl : p.2.2.2.2.2.2.2.1[i].2.1.1.length ≤ 1048576 := oz.2.1.2.1
    have hT := q_typesC p.2.2.2.2.2.2.2.1[i].2.2.1.1 p.2.2.2.2.2.2.2.1[i].2.2.1.2 .no oz.2.2.1.len fun a ha => q_copied a.sz a (Nat.le_refl _) (oz.2.2.1.2.2 a ha)
    have hM := q_copied p.2.2.2.2.2.2.2.1[i].2.2.2.1.sz p.2.2.2.2.2.2.2.1[i].2.2.2.1 (Nat.le_refl _) oz.2.2.2.1.1
    rw [cCp] at hM
    have hC := q_CloneNm p.2.2.2.2.2.2.2.1[i].2.1.1 p.2.2.2.2.2.2.2.1[i].2.1.2 .no ozl oz.2.1.1
    refine aw_srd [(0,true),(1,true),(2,true),(3,true),(4,true),(5,true),(6,true),(7,true),(8,true),(9,true),(10,true),(11,true),(12,true),(13,true),(14,true),(15,true),(16,true),(17,true),(18,true),(19,true),(20,true),(21,true),(22,true),(23,true),(24,true),(25,true),(26,true),(27,true),(28,false),(29,true)] mixed rfl (by kernel_rfl) ?_  -- r4 @shape.go:228
    simp only [go_sem, reduceIte, Nat.reduceEqDiff, Nat.reduceAdd, Nat.reduceMul, Nat.reduceSub, Nat.reduceLeDiff, Nat.reduceLT, reduceCtorEq, h2, h4, ixI, getD_map hi, e42]
    have hb : 0 ≤ (i : Int) ∧ (i : Int) < (p.2.2.2.2.2.2.2.1.length : Int) := ⟨by omega, by omega⟩
    have hw := wid_eAcr p.2.2.2.2.2.2.2.1
    refine ⟨⟨by omega, by omega, hw⟩, ⟨by omega, by omega, hw⟩, ?_⟩
    refine goQ_by hC ?_
    simp only [go_sem, reduceIte, Nat.reduceEqDiff, Nat.reduceAdd, Nat.reduceMul, Nat.reduceSub, Nat.reduceLeDiff, Nat.reduceLT, reduceCtorEq, h2, h4, ixI, getD_map hi, e42]
    refine ⟨⟨by omega, by omega, hw⟩, ?_⟩
    refine goQ_by hT ?_
    simp only [go_sem, reduceIte, Nat.reduceEqDiff, Nat.reduceAdd, Nat.reduceMul, Nat.reduceSub, Nat.reduceLeDiff, Nat.reduceLT, reduceCtorEq, h2, h4, ixI, getD_map hi, e42]
    refine ⟨⟨by omega, by omega, hw⟩, ?_⟩
    refine goQ_by hM ?_
    simp only [go_sem, reduceIte, Nat.reduceEqDiff, Nat.reduceAdd, Nat.reduceMul, Nat.reduceSub, Nat.reduceLeDiff, Nat.reduceLT, reduceCtorEq, h2, h4]
    refine aw_ret ⟨trivial, ?_⟩
    simp only [go_sem, reduceIte, Nat.reduceEqDiff, Nat.reduceAdd, Nat.reduceMul, Nat.reduceSub, Nat.reduceLeDiff, Nat.reduceLT, reduceCtorEq, resL, resOf, hget_hset_self h4]
    refine ⟨_, rfl, ?_, sub_hset_fresh hb4'' hs1⟩
    rw [e1, actV, actC]
    exact Vle.tupL (.cons (Vle.aggL (by repeat' first | exact .nil | refine .cons (Vle.refl _) ?_ | refine .cons Vle.untag ?_)) (.cons (Vle.refl _) .nil))
end Go.Proofs.Ytclmcpbanaojfaa

set_option linter.unusedSimpArgs false
set_option linter.unusedVariables false
namespace Go.Proofs.Ytclmcpbanaojfaa
open Go.Proofs.YtclmcpbanaojfaaV
set_option maxHeartbeats 400000
set_option maxRecDepth 100000
def nextF (vs : List Val) : List Val := vs.flatMap Val.args
theorem szs_next : ∀ vs, szs (nextF vs) + vs.length = szs vs
  | [] => rfl
  | v :: vs => by
    have := szs_next vs
    have := v.sz_eq
    simp only [nextF, List.flatMap_cons, szs_append, szs, List.length_cons] at *
    omega
theorem szs_take (vs : List Val) (i : Nat) : szs (vs.take i) ≤ szs vs := by
  have := szs_append (vs.take i) (vs.drop i)
  rw [List.take_append_drop] at this
  omega
theorem nextF_take {vs : List Val} {i : Nat} (h : i < vs.length) : nextF (vs.take (i + 1)) = nextF (vs.take i) ++ vs[i].args := by
  rw [List.take_succ_eq_append_getElem h, nextF, List.flatMap_append]; simp [nextF]
theorem nextF_len (vs : List Val) (i : Nat) : (nextF (vs.take i)).length ≤ szs vs := by
  have := szs_len (nextF (vs.take i))
  have := szs_next (vs.take i)
  have := szs_take vs i
  omega
theorem wid_eVal (vs : List Val) : wid 4 (vs.map eVal) := wid_map (g := eVal) (fun _ => by rw [eC]; rfl) _
theorem sca_eVal (vs : List Val) : sca (vs.map eVal) := by
  intro e he x hx
  obtain ⟨u, _, rfl⟩ := List.mem_map.1 he
  rw [eC] at hx
  simp only [cV, List.mem_cons, List.not_mem_nil, or_false] at hx
  rcases hx with rfl | rfl | rfl | rfl <;> rfl
/-- Is a value small, level by level? -/
def smallL : Nat → List Val → Nat → Bool
  | 0, _, _ => false
  | k + 1, now, n => if now = [] then true else if k = 0 ∨ 3000 < n + now.length then false else smallL k (nextF now) (n + now.length)
structure SmS where
  now : List Val
  n : Nat
  deep : Nat
  nl : Bool
  t : Tag
def smallV (v : Val) : Bool := smallL 302 [v] 0
end Go.Proofs.Ytclmcpbanaojfaa

/- ShapeSame: the law, over programs and types as data. -/
set_option linter.unusedSimpArgs false
set_option linter.unusedVariables false
namespace Go.Proofs.Ytclmcpbanaojfaa
open Go.Proofs.YtclmcpbanaojfaaV
set_option maxHeartbeats 4000000
set_option maxRecDepth 100000
theorem q_TypesSmall2 (l : List Typ) (ln : Bool) (tg0 : Tag) (hv : tszs l ≤ 2 * bulk) : QB Try.prog 15 [.sl (l.map eTyp) ln tg0] := by
  refine QB.weak fun G => ?_
  have hv' : tszs l ≤ 2097152 := hv
  have hll := tszs_len l
  refine acall_body (rs := [.tmp 2]) Try.func15 rfl rfl Try.ntmps15 (by kernel_rfl) (Nat.le_of_ble_eq_true rfl) ?_
  refine aw_sr rfl ?_
  simp only [go_sem, reduceIte, Nat.reduceEqDiff, Nat.reduceAdd, Nat.reduceMul, Nat.reduceSub, Nat.reduceLeDiff, Nat.reduceLT, reduceCtorEq]
  refine aw_sr rfl ?_
  simp only [go_sem, reduceIte, Nat.reduceEqDiff, Nat.reduceAdd, Nat.reduceMul, Nat.reduceSub, Nat.reduceLeDiff, Nat.reduceLT, reduceCtorEq]
  refine goP_room (Room.start _ 3) ⟨rfl, rfl, by decide, by simp, wid_eTyp _, sca_eTyp _, by simp; omega, by simp; omega⟩ fun t1 H1 hr1 => ?_
  simp only [go_sem, reduceIte, Nat.reduceEqDiff, Nat.reduceAdd, Nat.reduceMul, Nat.reduceSub, Nat.reduceLeDiff, Nat.reduceLT, reduceCtorEq]
  refine aw_sr rfl ?_
  simp only [go_sem, reduceIte, Nat.reduceEqDiff, Nat.reduceAdd, Nat.reduceMul, Nat.reduceSub, Nat.reduceLeDiff, Nat.reduceLT, reduceCtorEq]
  refine aw_seq fun K1 hK1 => ?_
  refine aw_sr rfl ?_
  simp only [go_sem, reduceIte, Nat.reduceEqDiff, Nat.reduceAdd, Nat.reduceMul, Nat.reduceSub, Nat.reduceLeDiff, Nat.reduceLT, reduceCtorEq]
  refine aw_block ?_
  refine aw_lph (S := {s : SmT // tszs s.now ≤ 2 * bulk ∧ s.n ≤ 1000 ∧ s.deep ≤ 101 ∧ Sub G s.H}) (fun s => [(3, .sl (s.1.now.map eTyp) s.1.nl s.1.t), (4, .int .i64 s.1.n), (5, .int .i64 s.1.deep)]) (fun s => s.1.H) (fun s => 102 - s.1.deep) ⟨⟨l, 0, 0, false && (l.map eTyp).isEmpty, t1, H1⟩, hv, by simp, by simp, hr1.sub⟩ ?_ (fun _ _ h => h) ?_
  · simp only [go_sem, reduceIte, Nat.reduceEqDiff, Nat.reduceAdd, Nat.reduceMul, Nat.reduceSub, Nat.reduceLeDiff, Nat.reduceLT, reduceCtorEq, Int.natCast_zero, List.nil_append]
  · intro ⟨⟨now, n, deep, nl, tg, H⟩, i1, i2, i3, i5⟩
    simp only at i1 i2 i3 i5 ⊢
    have hlen := tszs_len now
    have hb1 : tszs now ≤ 2097152 := i1
    refine aw_seq fun K2 hK2 => ?_
    refine aw_sr rfl ?_
    simp only [go_sem, reduceIte, Nat.reduceEqDiff, Nat.reduceAdd, Nat.reduceMul, Nat.reduceSub, Nat.reduceLeDiff, Nat.reduceLT, reduceCtorEq]
    refine aw_if rfl (fun h => ?_) (fun h => ?_)
    · refine aw_skip (hK2 _ _ ?_)
      refine aw_seq fun K3 hK3 => ?_
      refine aw_block ?_
      refine aw_seq fun K4 hK4 => ?_
      refine aw_sr rfl ?_
      simp only [go_sem, reduceIte, Nat.reduceEqDiff, Nat.reduceAdd, Nat.reduceMul, Nat.reduceSub, Nat.reduceLeDiff, Nat.reduceLT, reduceCtorEq]
      have hw : IntKind.i64.wrap ((n : Int) + (now.length : Int)) = ((n + now.length : Nat) : Int) := by rw [wrap64 (by omega) (by omega)]; simp
      refine aw_sr rfl ?_
      simp only [go_sem, reduceIte, Nat.reduceEqDiff, Nat.reduceAdd, Nat.reduceMul, Nat.reduceSub, Nat.reduceLeDiff, Nat.reduceLT, reduceCtorEq, hw]
      refine aw_if rfl (fun h => ?_) (fun h => ?_)
      · refine aw_sr rfl ?_
        simp only [go_sem, reduceIte, Nat.reduceEqDiff, Nat.reduceAdd, Nat.reduceMul, Nat.reduceSub, Nat.reduceLeDiff, Nat.reduceLT, reduceCtorEq]
        exact aw_ret ⟨trivial, _, rfl, ⟨_, Vle.refl _⟩, i5⟩
      · have hc : ¬ (100 < deep ∨ 1000 < n + now.length) := by
          simp only [Bool.or_eq_false_iff, decide_eq_false_iff_not] at h
          omega
        refine aw_skip (hK4 _ _ ?_)
        refine aw_sr rfl ?_
        simp only [go_sem, reduceIte, Nat.reduceEqDiff, Nat.reduceAdd, Nat.reduceMul, Nat.reduceSub, Nat.reduceLeDiff, Nat.reduceLT, reduceCtorEq]
        refine aw_seq fun K5 hK5 => ?_
        refine aw_sr rfl ?_
        simp only [go_sem, reduceIte, Nat.reduceEqDiff, Nat.reduceAdd, Nat.reduceMul, Nat.reduceSub, Nat.reduceLeDiff, Nat.reduceLT, reduceCtorEq]
        refine aw_range now.length (S := Bool × Tag × Heap) (fun i s => [(27, .sl (now.map eTyp) nl tg), (6, .sl ((nextT (now.take i)).map eTyp) s.1 s.2.1), (4, .int .i64 ((n + now.length : Nat) : Int)), (5, .int .i64 deep)]) (fun _ s => s.2.2) (fun i s => Room H 3 s.2.1 s.2.2) (true, .full, H) (by omega) ?_ (fun _ _ h => h) (Room.start H 3) rfl (fun _ _ => rfl) ?_ ?_ (by decide)
        · simp only [go_sem, reduceIte, Nat.reduceEqDiff, Nat.reduceAdd, Nat.reduceMul, Nat.reduceSub, Nat.reduceLeDiff, Nat.reduceLT, reduceCtorEq, Int.natCast_zero, List.take_zero, nextT, List.flatMap_nil, List.map_nil]
        · intro i ⟨nl2, t2, H2⟩ hi he
          simp only at he ⊢
          refine aw_sr rfl ?_
          simp only [go_sem, reduceIte, Nat.reduceEqDiff, Nat.reduceAdd, Nat.reduceMul, Nat.reduceSub, Nat.reduceLeDiff, Nat.reduceLT, reduceCtorEq, getD_map hi, eTyp_eq, cTyp]
          refine ⟨⟨by omega, by omega, wid_eTyp _⟩, fun b2 hb2 => ?_⟩
          obtain ⟨H3, hr2, hs2⟩ := he.push (o := .vars (cTyp now[i])) hb2
          refine AW.of_hsub hs2 ?_
          have hb3 : hget H3 b2 = some (.vars (cTyp now[i])) := hr2.sub _ _ (hget_self _ _ _)
          refine aw_rg rfl ?_
          simp only [go_sem, reduceIte, Nat.reduceEqDiff, Nat.reduceAdd, Nat.reduceMul, Nat.reduceSub, Nat.reduceLeDiff, Nat.reduceLT, reduceCtorEq, hb3, cTyp]
          refine goP_room hr2 ?_ fun t' H' hr => ?_
          · have := nextT_len now (i + 1)
            rw [nextT_take hi, List.length_append] at this
            exact ⟨rfl, rfl, by decide, wid_eTyp _, wid_eTyp _, sca_eTyp _, by simp; omega, by simp; omega⟩
          simp only [go_sem, reduceIte, Nat.reduceEqDiff, Nat.reduceAdd, Nat.reduceMul, Nat.reduceSub, Nat.reduceLeDiff, Nat.reduceLT, reduceCtorEq, ← List.map_append, ← nextT_take hi]
          obtain ⟨H4, hr3, hs3⟩ := hr.pop (he.sub_none hb2)
          refine ⟨(nl2 && (now[i].args.map eTyp).isEmpty, t', H4), hr3, ?_, hs3⟩
          simp only [go_sem, reduceIte, Nat.reduceEqDiff, Nat.reduceAdd, Nat.reduceMul, Nat.reduceSub, Nat.reduceLeDiff, Nat.reduceLT, reduceCtorEq]
        · intro ⟨nl2, t2, H2⟩ he
          simp only at he ⊢
          refine hK5 _ _ ?_
          refine aw_rg rfl ?_
          simp only [go_sem, reduceIte, Nat.reduceEqDiff, Nat.reduceAdd, Nat.reduceMul, Nat.reduceSub, Nat.reduceLeDiff, Nat.reduceLT, reduceCtorEq, List.take_length]
          refine hK3 _ _ ?_
          refine aw_rg rfl ?_
          have hw2 : IntKind.i64.wrap ((deep : Int) + 1) = ((deep + 1 : Nat) : Int) := by rw [wrap64 (by omega) (by omega)]; simp
          simp only [go_sem, reduceIte, Nat.reduceEqDiff, Nat.reduceAdd, Nat.reduceMul, Nat.reduceSub, Nat.reduceLeDiff, Nat.reduceLT, reduceCtorEq, hw2]
          refine ⟨⟨⟨nextT now, n + now.length, deep + 1, nl2, t2, H2⟩, ?_, ?_, ?_, sub_trans i5 he.sub⟩, ?_, ?_, fun _ _ h => h⟩
          · have := tszs_next now; show tszs (nextT now) ≤ 2097152; omega
          · show n + now.length ≤ 1000; omega
          · show deep + 1 ≤ 101; omega
          · show 102 - (deep + 1) < 102 - deep; omega
          · simp only [go_sem, reduceIte, Nat.reduceEqDiff, Nat.reduceAdd, Nat.reduceMul, Nat.reduceSub, Nat.reduceLeDiff, Nat.reduceLT, reduceCtorEq]
    · refine aw_exit ?_
      refine hK1 _ _ ?_
      refine aw_sr rfl ?_
      simp only [go_sem, reduceIte, Nat.reduceEqDiff, Nat.reduceAdd, Nat.reduceMul, Nat.reduceSub, Nat.reduceLeDiff, Nat.reduceLT, reduceCtorEq]
      exact aw_ret ⟨trivial, _, rfl, ⟨_, Vle.refl _⟩, i5⟩

open sm
theorem law0_ShapeSame (p q : Prgm) (a b : Typ) (q0 : o29 p) (q1 : o29 q) (q2 : oTyp a) (q3 : oTyp b) : Quiet Try.prog 3 [.agg (cPrg p), .agg (cPrg q), .agg (cTyp a), .agg (cTyp b)] (.bool true) := by
  have hps := q_ProgramSmall p q0
  have hqs := q_ProgramSmall q q1
  have hts := q_TypesSmall2 [a, b] false .full (by simp only [tszs]; have h1 := q2.2; have h2 := q3.2; omega)
  have o4 : o23 p.2.2.2.1 := q0.2.2.2.1
  have o5 : o23 q.2.2.2.1 := q1.2.2.2.1
  have oA : o27 p.2.2.2.2.2.2.2 := q0.2.2.2.2.2.2.2
  have hAl : p.2.2.2.2.2.2.2.1.length ≤ 1048576 := oA.2.1
  have hS := q_SameS o4 o5 q2.1 (b := b)
  have hR := q_rShapeSame o4 o5 q2.1 (b := b)
  let zP : Prgm := ([], 0, ([], true), ([], true), ([], true), ([], true), ([], true), ([], true))
  have zok : o23 zP.2.2.2.1 := ⟨fun _ => rfl, by decide, fun d h => by cases h⟩
  have hA := q_SameS zok zok (a := .mk 1 [] [] true) (b := .mk 1 [] [] true) (.mk (by decide) (by decide) (fun _ => rfl) (by decide) (fun a h => by cases h))
  rw [show sameF (big zP zP) [] [] (.mk 1 [] [] true) (.mk 1 [] [] true) = true by rfl] at hA
  refine Quiet.weak fun G => ?_
  refine acall_body (rs := [.tmp 8]) Try.func3 rfl rfl Try.ntmps3 (by kernel_rfl) (Nat.le_of_ble_eq_true rfl) ?_
  refine aw_sr rfl ?_  -- r0 @high.go:133
  simp only [go_sem, reduceIte, Nat.reduceEqDiff, Nat.reduceAdd, Nat.reduceMul, Nat.reduceSub, Nat.reduceLeDiff, Nat.reduceLT, reduceCtorEq]
  intro b4 hb4 b5 hb5 b6 hb6 b7 hb7
  refine aw_box4 hb4 hb5 hb6 hb7 fun B1 hs1 h4 h5 h6 h7 => ?_
  have hsB := hs1
  refine aw_seq fun K3 hK3 => ?_
  refine aw_sr rfl ?_  -- r1 @high.go:134
  simp only [go_sem, reduceIte, Nat.reduceEqDiff, Nat.reduceAdd, Nat.reduceMul, Nat.reduceSub, Nat.reduceLeDiff, Nat.reduceLT, reduceCtorEq]
  refine goA_q (Quiet.args hA ?_) ?_
  · repeat (first | exact .nil | refine .cons (Vle.refl _) ?_ | refine .cons Vle.untag ?_ | refine .cons (Vle.aggL ?_) ?_ | refine .cons (Vle.slE ?_) ?_)
  simp only [go_sem, reduceIte, Nat.reduceEqDiff, Nat.reduceAdd, Nat.reduceMul, Nat.reduceSub, Nat.reduceLeDiff, Nat.reduceLT, reduceCtorEq]
  refine aw_if rfl (fun h => by simp at h) (fun h => ?_)
  refine aw_skip (hK3 _ _ ?_)
  simp only [e29] at h4 h5 hps hqs hS hR
  refine aw_seq fun K4 hK4 => ?_
  refine aw_sr rfl ?_  -- r3 @high.go:137
  simp only [go_sem, reduceIte, Nat.reduceEqDiff, Nat.reduceAdd, Nat.reduceMul, Nat.reduceSub, Nat.reduceLeDiff, Nat.reduceLT, reduceCtorEq, h4, h5, h6, h7]
  refine goA_qb hps fun x1 => ?_
  simp only [go_sem, reduceIte, Nat.reduceEqDiff, Nat.reduceAdd, Nat.reduceMul, Nat.reduceSub, Nat.reduceLeDiff, Nat.reduceLT, reduceCtorEq, h4, h5, h6, h7]
  refine goH_qb (fun hg => hqs) fun x2 => ?_
  simp only [go_sem, reduceIte, Nat.reduceEqDiff, Nat.reduceAdd, Nat.reduceMul, Nat.reduceSub, Nat.reduceLeDiff, Nat.reduceLT, reduceCtorEq, h4, h5, h6, h7]
  simp only [List.map_cons, List.map_nil, eTyp_eq] at hts
  refine goH_qb (fun hg => hts) fun x3 => ?_
  simp only [go_sem, reduceIte, Nat.reduceEqDiff, Nat.reduceAdd, Nat.reduceMul, Nat.reduceSub, Nat.reduceLeDiff, Nat.reduceLT, reduceCtorEq]
  refine aw_if rfl (fun h => ?_) (fun h => ?_)
  · refine aw_sr rfl ?_  -- r4 @high.go:138
    simp only [go_sem, reduceIte, Nat.reduceEqDiff, Nat.reduceAdd, Nat.reduceMul, Nat.reduceSub, Nat.reduceLeDiff, Nat.reduceLT, reduceCtorEq]
    exact aw_ret ⟨trivial, _, rfl, Vle.refl _, hsB⟩
  refine aw_skip (hK4 _ _ ?_)
  refine aw_seq fun K5 hK5 => ?_
  refine aw_sr rfl ?_  -- r5 @high.go:140
  simp only [go_sem, reduceIte, Nat.reduceEqDiff, Nat.reduceAdd, Nat.reduceMul, Nat.reduceSub, Nat.reduceLeDiff, Nat.reduceLT, reduceCtorEq, h4]
  refine aw_range p.2.2.2.2.2.2.2.1.length (S := Unit) (fun i _ => [(4, .ptr b4 0), (5, .ptr b5 0), (6, .ptr b6 0), (7, .ptr b7 0), (37, .sl (p.2.2.2.2.2.2.2.1.map eAcr) p.2.2.2.2.2.2.2.2 .no)]) (fun _ _ => B1) (fun i _ => True) () (by omega) ?_ (fun _ _ h => h) trivial rfl (fun _ _ => rfl) ?_ ?_ (by decide)
  · simp only [go_sem, reduceIte, Nat.reduceEqDiff, Nat.reduceAdd, Nat.reduceMul, Nat.reduceSub, Nat.reduceLeDiff, Nat.reduceLT, reduceCtorEq, Int.natCast_zero]
  · intro i _ hi _
    have hw := wid_eAcr p.2.2.2.2.2.2.2.1
    obtain ⟨k, hk, e1, e2⟩ : ∃ k, ∃ h : k < p.2.2.2.2.2.2.2.1.length, acrF p p.2.2.2.2.2.2.2.1[i].1 = some p.2.2.2.2.2.2.2.1[k] ∧ p.2.2.2.2.2.2.2.1.findIdx? (fun d => decide (d.1 = p.2.2.2.2.2.2.2.1[i].1)) = some k := by
      rcases acrF_ix p p.2.2.2.2.2.2.2.1[i].1 with ⟨_, e2⟩ | h
      · rw [List.findIdx?_eq_none_iff] at e2
        have := e2 _ (List.getElem_mem hi)
        simp at this
      · exact h
    have hAc := q_Actor p p.2.2.2.2.2.2.2.1[i].1 oA
    rw [e1, actV, actC] at hAc
    have oz := oA.2.2 _ (List.getElem_mem hk)
    have ozl : p.2.2.2.2.2.2.2.1[k].2.1.1.length ≤ 1048576 := oz.2.1.2.1
    refine aw_sr rfl ?_  -- r7 @high.go:140
    simp only [go_sem, reduceIte, Nat.reduceEqDiff, Nat.reduceAdd, Nat.reduceMul, Nat.reduceSub, Nat.reduceLeDiff, Nat.reduceLT, reduceCtorEq, getD_map hi, e42]
    refine ⟨⟨by omega, by omega, hw⟩, ?_⟩
    intro b10 hb10
    refine aw_box1 hb10 fun B2 hs2 h10 => ?_
    have g4 := hs2 _ _ h4
    have hI := q_IndexAcr [(b10, .vars (eAcr p.2.2.2.2.2.2.2.1[i]))] 17 [] [.ptr b10 0] (fun d => decide (d.1 = p.2.2.2.2.2.2.2.1[i].1)) p.2.2.2.2.2.2.2.1 p.2.2.2.2.2.2.2.2 .no (by omega) fun d _ => q_law1 d _ b10
    rw [e2, ixI] at hI
    refine aw_sr rfl ?_  -- r8 @high.go:141
    simp only [go_sem, reduceIte, Nat.reduceEqDiff, Nat.reduceAdd, Nat.reduceMul, Nat.reduceSub, Nat.reduceLeDiff, Nat.reduceLT, reduceCtorEq, g4, h10]
    refine goA_on hI (sub_one h10) ?_
    simp only [go_sem, reduceIte, Nat.reduceEqDiff, Nat.reduceAdd, Nat.reduceMul, Nat.reduceSub, Nat.reduceLeDiff, Nat.reduceLT, reduceCtorEq]
    simp only [e29] at hAc
    refine aw_sr rfl ?_  -- r9 @high.go:142
    simp only [go_sem, reduceIte, Nat.reduceEqDiff, Nat.reduceAdd, Nat.reduceMul, Nat.reduceSub, Nat.reduceLeDiff, Nat.reduceLT, reduceCtorEq, g4, h10]
    refine goA_q hAc ?_
    simp only [go_sem, reduceIte, Nat.reduceEqDiff, Nat.reduceAdd, Nat.reduceMul, Nat.reduceSub, Nat.reduceLeDiff, Nat.reduceLT, reduceCtorEq]
    intro b12 hb12
    refine aw_box1 hb12 fun B3 hs3 h12 => ?_
    replace g4 := hs3 _ _ g4
    refine aw_sr rfl ?_  -- r10 @high.go:143
    simp only [go_sem, reduceIte, Nat.reduceEqDiff, Nat.reduceAdd, Nat.reduceMul, Nat.reduceSub, Nat.reduceLeDiff, Nat.reduceLT, reduceCtorEq, g4, getD_map hk, e42]
    refine ⟨⟨by omega, by omega, hw⟩, ?_⟩
    generalize p.2.2.2.2.2.2.2.1[k] = z at h12 oz ozl
    intro b14 hb14
    refine aw_box1 hb14 fun B4 hs4 h14 => ?_
    replace h12 := hs4 _ _ h12
    have hsZ := sub_trans (sub_trans hs2 hs3) hs4
    have hE1 := q_EqNms z.2.1.1 z.2.1.1 z.2.1.2 z.2.1.2 .no .no (by omega)
    rw [decide_eq_true rfl] at hE1
    have hll := oz.2.2.1.len
    have hll' : z.2.2.1.1.length ≤ 1048576 := hll
    have hE2 := q_EqTrueT 21 (z.2.2.1.1.map cpT) z.2.2.1.1 z.2.2.1.1.isEmpty z.2.2.1.2 .no .no (by rw [List.length_map]; omega) (by simp) (fun i hi hj => by rw [List.getElem_map]; exact q_sameT _ _ (Nat.le_refl _) (oz.2.2.1.2.2 _ (List.getElem_mem hj)))
    have hE3 := q_sameT _ z.2.2.2.1 (Nat.le_refl _) oz.2.2.2.1.1
    rw [cCp] at hE3
    refine aw_sr rfl ?_  -- r11 @high.go:143
    simp only [go_sem, reduceIte, Nat.reduceEqDiff, Nat.reduceAdd, Nat.reduceMul, Nat.reduceSub, Nat.reduceLeDiff, Nat.reduceLT, reduceCtorEq, h12, h14]
    refine goH_q (fun hg => hE1) ?_
    simp only [go_sem, reduceIte, Nat.reduceEqDiff, Nat.reduceAdd, Nat.reduceMul, Nat.reduceSub, Nat.reduceLeDiff, Nat.reduceLT, reduceCtorEq, h12, h14]
    refine goH_q (fun hg => hE2) ?_
    simp only [go_sem, reduceIte, Nat.reduceEqDiff, Nat.reduceAdd, Nat.reduceMul, Nat.reduceSub, Nat.reduceLeDiff, Nat.reduceLT, reduceCtorEq, h12, h14]
    refine goH_q (fun hg => hE3) ?_
    simp only [go_sem, reduceIte, Nat.reduceEqDiff, Nat.reduceAdd, Nat.reduceMul, Nat.reduceSub, Nat.reduceLeDiff, Nat.reduceLT, reduceCtorEq, h12, h14]
    refine aw_if rfl (fun h => by simp at h) (fun h => ?_)
    refine aw_skip ⟨(), ?_⟩
    simp only [go_sem, reduceIte, Nat.reduceEqDiff, Nat.reduceAdd, Nat.reduceMul, Nat.reduceSub, Nat.reduceLeDiff, Nat.reduceLT, reduceCtorEq]
    exact hsZ
  intro _ _
  refine hK5 _ _ ?_
  refine aw_srd [(0,true),(1,true),(2,true),(3,true),(4,true),(5,true),(6,true),(7,true),(8,true),(9,true),(10,true),(11,true)] mixed rfl (by kernel_rfl) ?_  -- r14 @high.go:147
  simp only [go_sem, reduceIte, Nat.reduceEqDiff, Nat.reduceAdd, Nat.reduceMul, Nat.reduceSub, Nat.reduceLeDiff, Nat.reduceLT, reduceCtorEq, h4, h5, h6, h7]
  refine goQ_by hS ?_
  simp only [go_sem, reduceIte, Nat.reduceEqDiff, Nat.reduceAdd, Nat.reduceMul, Nat.reduceSub, Nat.reduceLeDiff, Nat.reduceLT, reduceCtorEq, h4, h5, h6, h7]
  refine goQ_by hR ?_
  simp only [go_sem, reduceIte, Nat.reduceEqDiff, Nat.reduceAdd, Nat.reduceMul, Nat.reduceSub, Nat.reduceLeDiff, Nat.reduceLT, reduceCtorEq]
  refine aw_ret ⟨trivial, _, rfl, ?_, hsB⟩
  rw [beq_self_eq_true]; exact Vle.refl _
end Go.Proofs.Ytclmcpbanaojfaa

set_option linter.unusedSimpArgs false
set_option linter.unusedVariables false
namespace Go.Proofs.Ytclmcpbanaojfaa
open Go.Proofs.YtclmcpbanaojfaaV
set_option maxHeartbeats 400000
set_option maxRecDepth 100000
/-- What names of types are: each is within another one. -/
abbrev Scp := List (Nms × Typs)
def zTyp : Typ := .mk 0 [] [] true
/-- A bound type. -/
def eBd : Scp → Typ → List V
  | [], t => cTyp t ++ [.sl [] true .no, .sl [] true .no]
  | (nm, ts) :: s, t => cTyp t ++ [.sl (nm.1.map eNm) nm.2 .no, .sl (ts.1.map (eBd s)) ts.1.isEmpty .no]
def nmS : Scp → Nms | [] => ([], true) | (nm, _) :: _ => nm
def tsS : Scp → List Typ | [] => [] | (_, ts) :: _ => ts.1
def outS : Scp → Scp | [] => [] | _ :: s => s
abbrev cBd (s : Scp) (t : Typ) : List V := [.int .i64 t.kind, .str t.name, .sl (t.args.map eTyp) t.nl .no, .sl ((nmS s).1.map eNm) (nmS s).2 .no, .sl ((tsS s).map (eBd (outS s))) (tsS s).isEmpty .no]
theorem eBd_eq (s : Scp) (t : Typ) : eBd s t = cBd s t := by
  cases s <;> rfl
theorem wid_eBd (s : Scp) (ts : List Typ) : wid 5 (ts.map (eBd s)) := wid_map (g := eBd s) (fun _ => by rw [eBd_eq]; rfl) _
theorem sca_eBd (s : Scp) (ts : List Typ) : sca (ts.map (eBd s)) := by
  intro e he x hx
  obtain ⟨u, _, rfl⟩ := List.mem_map.1 he
  rw [eBd_eq] at hx
  simp only [cBd, List.mem_cons, List.not_mem_nil, or_false] at hx
  rcases hx with rfl | rfl | rfl | rfl | rfl <;> rfl
def OkScp (s : Scp) : Prop := ∀ f ∈ s, f.1.1.length ≤ bulk ∧ f.2.1.length ≤ bulk ∧ ∀ t ∈ f.2.1, OkTyp t
/-- What a type is, and within which scope. -/
def meantF : Scp → Typ → Typ × Scp
  | [], t => if t.kind = 5 then (zTyp, []) else (t, [])
  | (nm, ts) :: s, t => if t.kind = 5 then (match nm.1.findIdx? (fun x => decide (t.name = x)) with
      | none => (zTyp, [])
      | some i => if h : i < ts.1.length then meantF s ts.1[i] else (zTyp, []))
    else (t, (nm, ts) :: s)
theorem meantF_no {s : Scp} {t : Typ} (h : ¬ t.kind = 5) : meantF s t = (t, s) := by
  cases s with
  | nil => rw [meantF, if_neg h]
  | cons f s => obtain ⟨nm, ts⟩ := f; rw [meantF, if_neg h]
theorem meantF_none {s : Scp} {t : Typ} (h : t.kind = 5) (hn : (nmS s).1.findIdx? (fun x => decide (t.name = x)) = none) : meantF s t = (zTyp, []) := by
  cases s with
  | nil => rw [meantF, if_pos h]
  | cons f s => obtain ⟨nm, ts⟩ := f; rw [meantF, if_pos h]; rw [nmS] at hn; rw [hn]
theorem meantF_out {s : Scp} {t : Typ} {i : Nat} (h : t.kind = 5) (hn : (nmS s).1.findIdx? (fun x => decide (t.name = x)) = some i) (hi : ¬ i < (tsS s).length) : meantF s t = (zTyp, []) := by
  cases s with
  | nil => rw [meantF, if_pos h]
  | cons f s => obtain ⟨nm, ts⟩ := f; rw [meantF, if_pos h]; rw [nmS] at hn; rw [hn]; exact dif_neg hi
theorem meantF_in {s : Scp} {t : Typ} {i : Nat} (h : t.kind = 5) (hn : (nmS s).1.findIdx? (fun x => decide (t.name = x)) = some i) (hi : i < (tsS s).length) : meantF s t = meantF (outS s) (tsS s)[i] ∧ (outS s).length < s.length := by
  cases s with
  | nil => simp [tsS] at hi
  | cons f s => obtain ⟨nm, ts⟩ := f; rw [meantF, if_pos h]; rw [nmS] at hn; rw [hn]; exact ⟨dif_pos hi, by simp [outS]⟩
theorem OkScp.nm {s : Scp} (h : OkScp s) : (nmS s).1.length ≤ bulk := by
  cases s with
  | nil => simp [nmS]
  | cons f s => exact (h f (by simp)).1
theorem OkScp.ts {s : Scp} (h : OkScp s) : (tsS s).length ≤ bulk ∧ ∀ t ∈ tsS s, OkTyp t := by
  cases s with
  | nil => simp [tsS]
  | cons f s => exact (h f (by simp)).2
theorem OkScp.out {s : Scp} (h : OkScp s) : OkScp (outS s) := by
  cases s with
  | nil => exact h
  | cons f s => exact fun g hg => h g (by simp [outS] at hg; simp [hg])
theorem OkZ : OkTyp zTyp := .mk (by decide) (by simp) (by simp) (by simp) (by simp)
theorem meantF_ok : ∀ {s : Scp} {t : Typ}, OkScp s → OkTyp t → OkTyp (meantF s t).1 ∧ OkScp (meantF s t).2
  | [], t, h, ht => by
    rw [meantF]
    split
    · exact ⟨OkZ, h⟩
    · exact ⟨ht, h⟩
  | (nm, ts) :: s, t, h, ht => by
    rw [meantF]
    split
    · split
      · exact ⟨OkZ, by intro f hf; cases hf⟩
      · split
        · rename_i i hi
          exact meantF_ok (fun f hf => h f (by simp [hf])) ((h (nm, ts) (by simp)).2.2 _ (List.getElem_mem hi))
        · exact ⟨OkZ, by intro f hf; cases hf⟩
    · exact ⟨ht, h⟩
end Go.Proofs.Ytclmcpbanaojfaa

set_option linter.unusedSimpArgs false
set_option linter.unusedVariables false
namespace Go.Proofs.Ytclmcpbanaojfaa
open Go.Proofs.YtclmcpbanaojfaaV
set_option maxHeartbeats 400000
set_option maxRecDepth 100000
theorem VleLL.maps {A : Type} {f g : A → List V} (h : ∀ a, VleL (f a) (g a)) : ∀ xs : List A, VleLL (xs.map f) (xs.map g)
  | [] => .nil
  | x :: xs => .cons (h x) (VleLL.maps h xs)
/-- Types of all that a maker takes. -/
def partsF (p : Prgm) (s : Scp) (t : Typ) (name : List UInt8) : Option (List Typ × Scp) :=
  match dataF p t.name with
  | none => none
  | some d => match d.2.2.1.find? (fun m => decide (m.1 = name)) with
    | none => none
    | some m => if d.2.1.1.length = t.args.length then some (m.2.1, (d.2.1, (t.args, t.nl)) :: s) else none
def partsV : Option (List Typ × Scp) → V
  | none => .tup [.sl [] true .no, .bool false]
  | some (ts, s) => .tup [.sl (ts.map (eBd s)) ts.isEmpty .no, .bool true]
theorem find_ix {A : Type} (f : A → Bool) (xs : List A) : (xs.find? f = none ∧ xs.findIdx? f = none) ∨ ∃ i, ∃ h : i < xs.length, xs.find? f = some xs[i] ∧ xs.findIdx? f = some i := by
  cases h : xs.findIdx? f with
  | none => exact .inl ⟨List.find?_eq_none.2 fun x hx => by rw [List.findIdx?_eq_none_iff.1 h x hx]; simp, rfl⟩
  | some i =>
    obtain ⟨hi, h1, h2⟩ := List.findIdx?_eq_some_iff_getElem.1 h
    exact .inr ⟨i, hi, List.find?_eq_some_iff_getElem.2 ⟨h1, i, hi, rfl, fun j hj => by simpa using h2 j hj⟩, rfl⟩
theorem empty_take {A : Type} {l : List A} {i : Nat} (h : i < l.length) : (l.take (i + 1)).isEmpty = false := by
  cases l with
  | nil => simp at h
  | cons a l => rfl
end Go.Proofs.Ytclmcpbanaojfaa

set_option linter.unusedSimpArgs false
set_option linter.unusedVariables false
namespace Go.Proofs.Ytclmcpbanaojfaa
open Go.Proofs.YtclmcpbanaojfaaV
set_option maxHeartbeats 400000
set_option maxRecDepth 100000
/-- The kind of value of a type of a kind; 0: none. -/
def wantK (k : Int) : Int := if k = 1 then 2 else if k = 2 then 3 else if k = 3 then 4 else if k = 4 then 1 else if k = 6 then 5 else if k = 8 then 6 else if k = 9 then 8 else 0
def tblK : List (V × V) := [(.int .i64 1, .int .i64 2), (.int .i64 2, .int .i64 3), (.int .i64 3, .int .i64 4), (.int .i64 4, .int .i64 1), (.int .i64 6, .int .i64 5), (.int .i64 8, .int .i64 6), (.int .i64 9, .int .i64 8)]
theorem tblK_find (k : Int) : (∃ j, mfind (.int .i64 k) tblK 0 = some (some (j, .int .i64 (wantK k)))) ∨ (mfind (.int .i64 k) tblK 0 = some none ∧ wantK k = 0) := by
  unfold tblK wantK
  simp only [mfind, keyEq, if_true]
  by_cases h1 : k = 1
  · subst h1; exact .inl ⟨_, rfl⟩
  by_cases h2 : k = 2
  · subst h2; exact .inl ⟨_, rfl⟩
  by_cases h3 : k = 3
  · subst h3; exact .inl ⟨_, rfl⟩
  by_cases h4 : k = 4
  · subst h4; exact .inl ⟨_, rfl⟩
  by_cases h5 : k = 6
  · subst h5; exact .inl ⟨_, rfl⟩
  by_cases h6 : k = 8
  · subst h6; exact .inl ⟨_, rfl⟩
  by_cases h7 : k = 9
  · subst h7; exact .inl ⟨_, rfl⟩
  exact .inr (by simp [h1, h2, h3, h4, h5, h6, h7])
/-- The types of a value's parts. -/
def pickF (p : Prgm) (m : Typ × Scp) (text : List UInt8) : Option (List Typ × Scp) := if m.1.kind = 6 then partsF p m.2 m.1 text else if m.1.kind = 9 then some (m.1.args, m.2) else some ([], m.2)
/-- Is a value of a type? -/
def fitsF (p : Prgm) : Nat → Scp → Typ → Val → Bool
  | 0, _, _, _ => false
  | n + 1, s, t, v => if wantK (meantF s t).1.kind = 0 ∨ wantK (meantF s t).1.kind ≠ v.kind then false else match pickF p (meantF s t) v.text with
    | none => false
    | some (ts, s') => eqF (fun a u => fitsF p n s' a u) ts v.args
theorem partsF_ok {p : Prgm} {s : Scp} {t : Typ} {name : List UInt8} {ts : List Typ} {s' : Scp} (hp : o23 p.2.2.2.1) (hs : OkScp s) (ht : OkTyp t) (h : partsF p s t name = some (ts, s')) : OkScp s' ∧ ts.length ≤ bulk ∧ ∀ t ∈ ts, OkTyp t := by
  unfold partsF at h
  split at h
  · cases h
  rename_i d hd
  split at h
  · cases h
  rename_i m hm
  split at h
  · cases h
    have hdo := hp.2.2 d (List.mem_of_find?_eq_some hd)
    have hmo := (hdo.2.2.2.2 m (List.mem_of_find?_eq_some hm)).2
    refine ⟨fun f hf => ?_, hmo.len, hmo.2.2⟩
    rcases List.mem_cons.1 hf with rfl | hf
    · exact ⟨hdo.2.1.2.1, ht.len, fun a ha => ht.arg ha⟩
    · exact hs f hf
  · cases h
end Go.Proofs.Ytclmcpbanaojfaa

set_option linter.unusedSimpArgs false
set_option linter.unusedVariables false
namespace Go.Proofs.Ytclmcpbanaojfaa
open Go.Proofs.YtclmcpbanaojfaaV
set_option maxHeartbeats 400000
set_option maxRecDepth 100000
/-- In a heap a pointer leads to a scope. -/
def ScpAt (G : Heap) : Scp → V → Prop
  | [], x => x = .nilp
  | (nm, ts) :: s, x => ∃ b y, x = .ptr b 0 ∧ hget G b = some (.vars [.sl (nm.1.map eNm) nm.2 .no, .sl (ts.1.map eTyp) ts.2 .no, y]) ∧ ScpAt G s y
theorem ScpAt.sub {G H : Heap} (h : Sub G H) : ∀ {s : Scp} {x : V}, ScpAt G s x → ScpAt H s x
  | [], _, k => k
  | (nm, ts) :: s, _, ⟨b, y, h1, h2, h3⟩ => ⟨b, y, h1, h _ _ h2, ScpAt.sub h h3⟩
theorem wid_eNm (xs : List (List UInt8)) : wid 1 (xs.map eNm) := wid_map (g := eNm) (fun _ => rfl) _
theorem a_meant (s : Scp) (t : Typ) (x : V) (G0 G : Heap) (hs0 : Sub G0 G) (hs : OkScp s) (hx : ScpAt G0 s x) : ACall Try.prog 250 [.agg (cTyp t), x] (fun r G' => (∃ y, r = .tup [.agg (cTyp (meantF s t).1), y] ∧ ScpAt G0 (meantF s t).2 y) ∧ G' = G) G := by
  refine ACall.weak (ACall.mono (Q := fun r G' => (∃ y, Vle r (.tup [.agg (cTyp (meantF s t).1), y]) ∧ ScpAt G0 (meantF s t).2 y) ∧ Sub G G') ?_ (fun r G' ⟨⟨y, h1, h2⟩, h3⟩ => ⟨_, G, h1, h3, ⟨y, rfl, h2⟩, rfl⟩))
  refine acall_body (rs := [.cell 4 32, .tmp 5]) Try.func250 rfl rfl Try.ntmps250 (by kernel_rfl) (Nat.le_of_ble_eq_true rfl) ?_
  refine aw_sr rfl ?_
  simp only [go_sem, reduceIte, Nat.reduceEqDiff, Nat.reduceAdd, Nat.reduceMul, Nat.reduceSub, Nat.reduceLeDiff, Nat.reduceLT, reduceCtorEq]
  intro b2 hb2 b4 hb4
  obtain ⟨n42, hb4'⟩ := fresh_cons hb4
  have hz : ∀ y, Vle (.tup [.agg [.int .i64 0, .str [], .sl [] true .full], y]) (.tup [.agg (cTyp zTyp), y]) := fun y =>
    Vle.tupL (.cons (Vle.aggL (.cons (Vle.refl _) (.cons (Vle.refl _) (.cons Vle.untag .nil)))) (.cons (Vle.refl _) .nil))
  refine aw_seq fun K1 hK1 => ?_
  refine aw_block ?_
  refine aw_lph (S := {p : Scp × Typ × V // meantF p.1 p.2.1 = meantF s t ∧ OkScp p.1 ∧ ScpAt G0 p.1 p.2.2}) (fun p => [(1, p.1.2.2), (2, .ptr b2 0), (4, .ptr b4 0)]) (fun p => [(b4, .vars [.int .i64 0, .str [], .sl [] true .full]), (b2, .vars (cTyp p.1.2.1))] ++ G) (fun p => p.1.1.length) ⟨(s, t, x), rfl, hs, hx⟩ ?_ (fun _ _ h => h) ?_
  · simp only [go_sem, reduceIte, Nat.reduceEqDiff, Nat.reduceAdd, Nat.reduceMul, Nat.reduceSub, Nat.reduceLeDiff, Nat.reduceLT, reduceCtorEq]
  intro ⟨⟨s, t, x⟩, h1, h2, h3⟩
  simp only at h1 h2 h3 ⊢
  have hsub : ∀ X Y, Sub G ((b4, X) :: (b2, Y) :: G) := fun _ _ => sub_fresh hb4' (sub_tail hb2)
  refine aw_seq fun K2 hK2 => ?_
  refine aw_sr rfl ?_
  simp only [go_sem, reduceIte, Nat.reduceEqDiff, Nat.reduceAdd, Nat.reduceMul, Nat.reduceSub, Nat.reduceLeDiff, Nat.reduceLT, reduceCtorEq, n42]
  refine aw_if rfl (fun h => ?_) (fun h => ?_)
  · have hk : t.kind = 5 := by simpa using h
    clear h
    refine aw_skip (hK2 _ _ ?_)
    refine aw_block ?_
    refine aw_seq fun K3 hK3 => ?_
    cases s with
    | nil =>
      have h3 : x = .nilp := h3
      subst h3
      refine aw_sr rfl ?_
      simp only [go_sem, reduceIte, Nat.reduceEqDiff, Nat.reduceAdd, Nat.reduceMul, Nat.reduceSub, Nat.reduceLeDiff, Nat.reduceLT, reduceCtorEq]
      refine aw_if rfl (fun h => ?_) (fun h => by cases h)
      refine aw_sr rfl ?_
      simp only [go_sem, reduceIte, Nat.reduceEqDiff, Nat.reduceAdd, Nat.reduceMul, Nat.reduceSub, Nat.reduceLeDiff, Nat.reduceLT, reduceCtorEq]
      refine aw_ret ⟨trivial, [.agg [.int .i64 0, .str [], .sl [] true .full], .nilp], ?_, ⟨.nilp, ?_, ?_⟩, hsub _ _⟩
      · simp only [go_sem, reduceIte, Nat.reduceEqDiff, Nat.reduceAdd, Nat.reduceMul, Nat.reduceSub, Nat.reduceLeDiff, Nat.reduceLT, reduceCtorEq, resL, resOf]
      · rw [← h1, meantF_none (s := []) hk rfl]; exact hz _
      · rw [← h1, meantF_none (s := []) hk rfl]; rfl
    | cons f s =>
      obtain ⟨nm, ts⟩ := f
      obtain ⟨b, y, rfl, hgb0, hy⟩ := h3
      have hgb := hs0 _ _ hgb0
      have hn1 : nm.1.length ≤ 1048576 := (h2 (nm, ts) (by simp)).1
      have hn2 : ts.1.length ≤ 1048576 := (h2 (nm, ts) (by simp)).2.1
      have nb4 : ¬ b4 = b := by intro e; subst e; rw [hgb] at hb4'; cases hb4'
      have nb2 : ¬ b2 = b := by intro e; subst e; rw [hgb] at hb2; cases hb2
      refine aw_sr rfl ?_
      simp only [go_sem, reduceIte, Nat.reduceEqDiff, Nat.reduceAdd, Nat.reduceMul, Nat.reduceSub, Nat.reduceLeDiff, Nat.reduceLT, reduceCtorEq]
      refine aw_if rfl (fun h => by cases h) (fun h => ?_)
      refine aw_skip (hK3 _ _ ?_)
      refine aw_sr rfl ?_
      simp only [go_sem, reduceIte, Nat.reduceEqDiff, Nat.reduceAdd, Nat.reduceMul, Nat.reduceSub, Nat.reduceLeDiff, Nat.reduceLT, reduceCtorEq]
      refine aw_mid (fun f' G' => ∃ i : Nat, ((i = nm.1.length ∧ nm.1.findIdx? (fun x => decide (t.name = x)) = none) ∨ (i < nm.1.length ∧ nm.1.findIdx? (fun x => decide (t.name = x)) = some i)) ∧ FSub [(6, .int .i64 i), (1, .ptr b 0), (2, .ptr b2 0), (4, .ptr b4 0)] f' ∧ G' = [(b4, AObj.vars [.int .i64 0, .str [], .sl [] true .full]), (b2, .vars (cTyp t))] ++ G) ?_ ?_
      · refine aw_block ?_
        refine aw_lph (S := {p : Nat × Heap // p.1 ≤ nm.1.length ∧ (∀ j (hj : j < nm.1.length), j < p.1 → decide (t.name = nm.1[j]) = false) ∧ p.2 = [(b4, AObj.vars [.int .i64 0, .str [], .sl [] true .full]), (b2, .vars (cTyp t))] ++ G}) (fun p => [(6, .int .i64 p.1.1), (1, .ptr b 0), (2, .ptr b2 0), (4, .ptr b4 0)]) (fun p => p.1.2) (fun p => nm.1.length - p.1.1) ⟨(0, _), Nat.zero_le _, fun j _ h => absurd h (by omega), rfl⟩ ?_ (fun _ _ h => h) ?_
        · simp only [go_sem, reduceIte, Nat.reduceEqDiff, Nat.reduceAdd, Nat.reduceMul, Nat.reduceSub, Nat.reduceLeDiff, Nat.reduceLT, reduceCtorEq, Int.natCast_zero]
        intro ⟨⟨i, H⟩, i1, i2, i3⟩
        simp only at i1 i2 i3 ⊢
        subst i3
        refine aw_seq fun K5 hK5 => ?_
        refine aw_srd [(0,true),(1,true),(2,true),(3,true),(4,true),(5,true),(6,true),(7,true),(8,true),(9,true),(10,true),(11,true),(12,true),(13,true),(14,true),(15,true),(16,true),(17,true),(18,true)] mixed rfl (by kernel_rfl) ?_
        by_cases hi : i < nm.1.length
        · have hg : decide ((i : Int) < (nm.1.length : Int)) = true := decide_eq_true (by omega)
          simp only [go_sem, reduceIte, Nat.reduceEqDiff, Nat.reduceAdd, Nat.reduceMul, Nat.reduceSub, Nat.reduceLeDiff, Nat.reduceLT, reduceCtorEq, nb4, nb2, hgb, n42, hg, getD_map hi, eNm]
          refine ⟨fun _ => ⟨by omega, by omega, wid_eNm _⟩, ?_⟩
          refine aw_if rfl (fun h => ?_) (fun h => ?_)
          · refine aw_skip (hK5 _ _ ?_)
            refine aw_block ?_
            refine aw_rg rfl ?_
            have hwi : IntKind.i64.wrap ((i : Int) + 1) = (i : Int) + 1 := wrap64 (by omega) (by omega)
            simp only [go_sem, reduceIte, Nat.reduceEqDiff, Nat.reduceAdd, Nat.reduceMul, Nat.reduceSub, Nat.reduceLeDiff, Nat.reduceLT, reduceCtorEq, hwi]
            have hne : ¬ nm.1[i] = t.name := by simpa using h
            refine ⟨⟨(i + 1, _), by show i + 1 ≤ _; omega, fun j hj hlt => ?_, rfl⟩, by show nm.1.length - (i + 1) < nm.1.length - i; omega, ?_, fun _ _ h => h⟩
            · have hlt : j < i + 1 := hlt
              by_cases e : j = i
              · subst e; exact decide_eq_false fun q => hne q.symm
              · exact i2 j hj (by omega)
            · simp only [go_sem, reduceIte, Nat.reduceEqDiff, Nat.reduceAdd, Nat.reduceMul, Nat.reduceSub, Nat.reduceLeDiff, Nat.reduceLT, reduceCtorEq, Int.natCast_add, Int.natCast_one]
          · have he : nm.1[i] = t.name := by simpa using h
            refine aw_exit ?_
            refine ⟨i, .inr ⟨hi, List.findIdx?_eq_some_iff_getElem.2 ⟨hi, by simp [he], fun j hj => by rw [i2 j (by omega) hj]; simp⟩⟩, ?_, rfl⟩
            exact ⟨rfl, rfl, rfl, rfl⟩
        · have hil : i = nm.1.length := by omega
          subst hil
          have hg : decide ((nm.1.length : Int) < (nm.1.length : Int)) = false := decide_eq_false (by omega)
          have hgd : (nm.1.map eNm).getD nm.1.length [] = [] := by simp
          simp only [go_sem, reduceIte, Nat.reduceEqDiff, Nat.reduceAdd, Nat.reduceMul, Nat.reduceSub, Nat.reduceLeDiff, Nat.reduceLT, reduceCtorEq, nb4, nb2, hgb, n42, hg, hgd, false_implies, not_true_eq_false]
          refine aw_if rfl (fun h => by cases h) (fun h => ?_)
          refine aw_exit ?_
          refine ⟨nm.1.length, .inl ⟨rfl, List.findIdx?_eq_none_iff.2 fun x hx => ?_⟩, ?_, rfl⟩
          · obtain ⟨j, hj, rfl⟩ := List.getElem_of_mem hx
            exact i2 j hj hj
          · exact ⟨rfl, rfl, rfl, rfl⟩
      · intro f' G' ⟨i, hi, hf, hG⟩
        subst hG
        refine AW.of_fsub hf ?_
        refine aw_seq fun K4 hK4 => ?_
        refine aw_sr rfl ?_
        simp only [go_sem, reduceIte, Nat.reduceEqDiff, Nat.reduceAdd, Nat.reduceMul, Nat.reduceSub, Nat.reduceLeDiff, Nat.reduceLT, reduceCtorEq, nb4, nb2, hgb]
        refine aw_if rfl (fun h => ?_) (fun h => ?_)
        · have hm : meantF ((nm, ts) :: s) t = (zTyp, []) := by
            rcases hi with ⟨_, e⟩ | ⟨hl, e⟩
            · exact meantF_none hk e
            · refine meantF_out (s := (nm, ts) :: s) hk e fun (q : i < ts.1.length) => ?_
              simp only [Bool.or_eq_true, decide_eq_true_eq] at h
              omega
          refine aw_sr rfl ?_
          simp only [go_sem, reduceIte, Nat.reduceEqDiff, Nat.reduceAdd, Nat.reduceMul, Nat.reduceSub, Nat.reduceLeDiff, Nat.reduceLT, reduceCtorEq]
          refine aw_ret ⟨trivial, [.agg [.int .i64 0, .str [], .sl [] true .full], .nilp], ?_, ⟨.nilp, ?_, ?_⟩, hsub _ _⟩
          · simp only [go_sem, reduceIte, Nat.reduceEqDiff, Nat.reduceAdd, Nat.reduceMul, Nat.reduceSub, Nat.reduceLeDiff, Nat.reduceLT, reduceCtorEq, resL, resOf]
          · rw [← h1, hm]; exact hz _
          · rw [← h1, hm]; rfl
        · have hh : i < ts.1.length ∧ ¬ i = nm.1.length := by
            simp only [Bool.or_eq_false_iff, decide_eq_false_iff_not] at h
            omega
          obtain ⟨hi2, hi3⟩ := hh
          obtain ⟨hl, e⟩ := hi.resolve_left fun q => hi3 q.1
          obtain ⟨hm, hlen⟩ := meantF_in (s := (nm, ts) :: s) hk e hi2
          refine aw_skip (hK4 _ _ ?_)
          refine aw_rgf [(0,true),(1,true),(2,true),(3,true),(4,true),(5,true),(6,true),(7,true),(8,true),(9,true)] 10 11 [(11,false),(12,true)] [(10,false),(12,true)] mixed rfl (by kernel_rfl) ?_
          simp only [go_sem, reduceIte, Nat.reduceEqDiff, Nat.reduceAdd, Nat.reduceMul, Nat.reduceSub, Nat.reduceLeDiff, Nat.reduceLT, reduceCtorEq, nb4, nb2, hgb, n42, getD_map hi2, eTyp_eq, cTyp]
          refine ⟨⟨by omega, by omega, wid_eTyp _⟩, ?_, ?_⟩
          · exact ⟨⟨(s, ts.1[i], y), hm.symm.trans h1, OkScp.out h2, hy⟩, Nat.lt_succ_self _, ⟨rfl, rfl, rfl⟩, fun _ _ h => h⟩
          · exact ⟨⟨(s, ts.1[i], y), hm.symm.trans h1, OkScp.out h2, hy⟩, Nat.lt_succ_self _, ⟨rfl, rfl, rfl⟩, fun _ _ h => h⟩
  · have h : ¬ t.kind = 5 := by simpa using h
    have hm := meantF_no (s := s) h
    refine aw_exit ?_
    refine hK1 _ _ ?_
    refine aw_sr rfl ?_
    simp only [go_sem, reduceIte, Nat.reduceEqDiff, Nat.reduceAdd, Nat.reduceMul, Nat.reduceSub, Nat.reduceLeDiff, Nat.reduceLT, reduceCtorEq, n42]
    refine aw_ret ⟨trivial, [.agg (cTyp t), x], ?_, ⟨x, ?_, ?_⟩, hsub _ _⟩
    · simp only [go_sem, reduceIte, Nat.reduceEqDiff, Nat.reduceAdd, Nat.reduceMul, Nat.reduceSub, Nat.reduceLeDiff, Nat.reduceLT, reduceCtorEq, resL, resOf]
    · rw [← h1, hm]; exact Vle.refl _
    · rw [← h1, hm]; exact h3
end Go.Proofs.Ytclmcpbanaojfaa

set_option linter.unusedSimpArgs false
set_option linter.unusedVariables false
namespace Go.Proofs.Ytclmcpbanaojfaa
open Go.Proofs.YtclmcpbanaojfaaV
set_option maxHeartbeats 400000
set_option maxRecDepth 100000
theorem ScpAt.form {G : Heap} {s : Scp} {x : V} (h : ScpAt G s x) : x = .nilp ∨ ∃ b, x = .ptr b 0 := by
  match s, h with
  | [], h => exact .inl h
  | (_, _) :: _, ⟨b, _, h, _⟩ => exact .inr ⟨b, h⟩
theorem wid_Val (vs : List Val) : wid 4 (vs.map eVal) := wid_map (g := eVal) (fun _ => by rw [eC]; rfl) _
/-- What is left to answer, once a type is known. -/
def restF (p : Prgm) (n : Nat) (m : Typ × Scp) (v : Val) : Bool := if wantK m.1.kind = 0 ∨ wantK m.1.kind ≠ v.kind then false else match pickF p m v.text with
    | none => false
    | some (ts, s') => eqF (fun a u => fitsF p n s' a u) ts v.args
theorem fitsF_succ (p : Prgm) (n : Nat) (s : Scp) (t : Typ) (v : Val) : fitsF p (n + 1) s t v = restF p n (meantF s t) v := rfl
theorem restF_leaf {p : Prgm} {n : Nat} {m : Typ × Scp} {v : Val} (h6 : ¬ m.1.kind = 6) (h9 : ¬ m.1.kind = 9) (h0 : wantK m.1.kind ≠ 0) : restF p n m v = (decide (v.kind = wantK m.1.kind) && decide ((v.args.length : Int) = 0)) := by
  unfold restF pickF
  rw [if_neg h6, if_neg h9]
  by_cases hv : v.kind = wantK m.1.kind
  · rw [if_neg (by rw [hv]; simpa using h0), decide_eq_true hv, Bool.true_and]
    have hz : (([] : List Typ).zip v.args).all (fun q => fitsF p n m.2 q.1 q.2) = true := rfl
    simp only [eqF, hz, Bool.and_true, List.length_nil]
    exact decide_eq_decide.2 (by omega)
  · rw [if_pos (.inr fun q => hv q.symm), decide_eq_false hv, Bool.false_and]
theorem restF_none {p : Prgm} {n : Nat} {m : Typ × Scp} {v : Val} (h0 : wantK m.1.kind = 0) : restF p n m v = false := by
  unfold restF; rw [if_pos (.inl h0)]
theorem restF_cell {p : Prgm} {n : Nat} {m : Typ × Scp} {v : Val} (h9 : m.1.kind = 9) : restF p n m v = if v.kind ≠ 8 then false else eqF (fun a u => fitsF p n m.2 a u) m.1.args v.args := by
  unfold restF pickF
  rw [h9]
  simp only [wantK]
  by_cases hv : v.kind = 8
  · rw [hv]; rfl
  · rw [if_pos (.inr fun q => hv q.symm), if_pos hv]
theorem restF_data {p : Prgm} {n : Nat} {m : Typ × Scp} {v : Val} (h6 : m.1.kind = 6) : restF p n m v = if v.kind ≠ 5 then false else match partsF p m.2 m.1 v.text with
    | none => false
    | some (ts, s') => eqF (fun a u => fitsF p n s' a u) ts v.args := by
  unfold restF pickF
  rw [h6]
  simp only [wantK]
  by_cases hv : v.kind = 5
  · rw [hv]; rfl
  · rw [if_pos (.inr fun q => hv q.symm), if_pos hv]
end Go.Proofs.Ytclmcpbanaojfaa

set_option linter.unusedSimpArgs false
set_option linter.unusedVariables false
namespace Go.Proofs.Ytclmcpbanaojfaa
open Go.Proofs.YtclmcpbanaojfaaV
set_option maxHeartbeats 400000
set_option maxRecDepth 100000
theorem isEmpty_take_add {A : Type} {l : List A} {i : Nat} (h : i < l.length) : (l.take (i + 1)).isEmpty = false := by
  cases l with
  | nil => simp at h
  | cons a l => rfl
mutual
/-- A type with arguments in the places of parameters. -/
def fillF (nm : Nms) (as_ : List Typ) : Typ → Typ
  | .mk k n ar nl => if k = 5 then (match nm.1.findIdx? (fun x => decide (n = x)) with
      | some i => if h : i < as_.length then as_[i] else .mk k n (fillFs nm as_ ar) ar.isEmpty
      | none => .mk k n (fillFs nm as_ ar) ar.isEmpty) else .mk k n (fillFs nm as_ ar) ar.isEmpty
def fillFs (nm : Nms) (as_ : List Typ) : List Typ → List Typ
  | [] => []
  | t :: ts => fillF nm as_ t :: fillFs nm as_ ts
end
theorem fillFs_map (nm : Nms) (as_ : List Typ) : ∀ ts, fillFs nm as_ ts = ts.map (fillF nm as_)
  | [] => rfl
  | t :: ts => by rw [fillFs, fillFs_map nm as_ ts]; rfl
abbrev fillB (nm : Nms) (as_ : List Typ) (t : Typ) : Typ := .mk t.kind t.name (t.args.map (fillF nm as_)) t.args.isEmpty
theorem fillF_in {nm : Nms} {as_ : List Typ} {t : Typ} {i : Nat} (hk : t.kind = 5) (hn : nm.1.findIdx? (fun x => decide (t.name = x)) = some i) (h : i < as_.length) : fillF nm as_ t = as_[i] := by
  cases t with | mk k n ar nl =>
  have hk : k = 5 := hk
  have hn : nm.1.findIdx? (fun x => decide (n = x)) = some i := hn
  rw [fillF, if_pos hk, hn]
  exact dif_pos h
theorem fillF_out {nm : Nms} {as_ : List Typ} {t : Typ} (h : ∀ i, t.kind = 5 → nm.1.findIdx? (fun x => decide (t.name = x)) = some i → i < as_.length → False) : fillF nm as_ t = fillB nm as_ t := by
  cases t with | mk k n ar nl =>
  have h : ∀ i, k = 5 → nm.1.findIdx? (fun x => decide (n = x)) = some i → i < as_.length → False := h
  rw [fillF]
  show _ = Typ.mk k n (ar.map (fillF nm as_)) ar.isEmpty
  rw [← fillFs_map]
  by_cases hk : k = 5
  · rw [if_pos hk]
    cases hn : nm.1.findIdx? (fun x => decide (n = x)) with
    | none => rfl
    | some i => exact dif_neg fun q => h i hk hn q
  · rw [if_neg hk]
theorem fillB_ok {nm : Nms} {as_ : List Typ} {t : Typ} (ht : OkTyp t) (h : ∀ a ∈ t.args, OkTyp (fillF nm as_ a)) : OkTyp (fillB nm as_ t) := by
  refine .mk ht.kind ht.name (fun e => ?_) (by rw [List.length_map]; exact ht.len) (fun a ha => ?_)
  · rw [List.isEmpty_iff] at e; rw [e]; rfl
  · obtain ⟨b, hb, rfl⟩ := List.mem_map.1 ha
    exact h b hb
theorem fillF_ok {nm : Nms} {as_ : List Typ} (ha : ∀ a ∈ as_, OkTyp a) : ∀ {t : Typ}, OkTyp t → OkTyp (fillF nm as_ t) := by
  intro t ht
  induction ht with
  | @mk k n ar nl hk hn hnl hl har ih =>
    by_cases h : ∃ i, k = 5 ∧ nm.1.findIdx? (fun x => decide (n = x)) = some i ∧ i < as_.length
    · obtain ⟨i, h1, h2, h3⟩ := h
      rw [fillF_in (t := .mk k n ar nl) h1 h2 h3]
      exact ha _ (List.getElem_mem h3)
    · rw [fillF_out (t := .mk k n ar nl) fun i h1 h2 h3 => h ⟨i, h1, h2, h3⟩]
      exact fillB_ok (.mk hk hn hnl hl har) ih
/-- shape.filled -/
theorem q_filled (nm : Nms) (as_ : List Typ) (anl : Bool) (hnm : nm.1.length ≤ bulk) (has : as_.length ≤ bulk) : ∀ (n : Nat) (t : Typ), t.sz ≤ n → OkTyp t →
    Quiet Try.prog 298 [.agg (cTyp t), .sl (nm.1.map eNm) nm.2 .no, .sl (as_.map eTyp) anl .no] (.agg (cTyp (fillF nm as_ t))) := by
  intro n
  induction n with
  | zero => intro t h; have := t.sz_eq; omega
  | succ n ih =>
  intro t hn ht
  have hasl : as_.length ≤ 1048576 := has
  have htl : t.args.length ≤ 1048576 := ht.len
  refine Quiet.weak fun G => ?_
  refine acall_body (rs := [.cell 6 32]) Try.func298 rfl rfl Try.ntmps298 (by kernel_rfl) (Nat.le_of_ble_eq_true rfl) ?_
  refine aw_sr rfl ?_  -- r0 @shape.go:86
  simp only [go_sem, reduceIte, Nat.reduceEqDiff, Nat.reduceAdd, Nat.reduceMul, Nat.reduceSub, Nat.reduceLeDiff, Nat.reduceLT, reduceCtorEq]
  intro b3 hb3 b6 hb6
  have hG6 := (fresh_cons hb6).2
  refine aw_box2 hb3 hb6 fun B1 hs1 h3 h6 _ _ => ?_
  have hsB := hs1
  refine aw_seq fun K1 hK1 => ?_
  refine aw_sr rfl ?_  -- r1 @shape.go:87
  simp only [go_sem, reduceIte, Nat.reduceEqDiff, Nat.reduceAdd, Nat.reduceMul, Nat.reduceSub, Nat.reduceLeDiff, Nat.reduceLT, reduceCtorEq, h3]
  refine goA_q (q_IndexStr nm.1 nm.2 .no t.name (le_bulk hnm)) ?_
  simp only [go_sem, reduceIte, Nat.reduceEqDiff, Nat.reduceAdd, Nat.reduceMul, Nat.reduceSub, Nat.reduceLeDiff, Nat.reduceLT, reduceCtorEq]
  refine aw_sr rfl ?_  -- r2 @shape.go:87
  simp only [go_sem, reduceIte, Nat.reduceEqDiff, Nat.reduceAdd, Nat.reduceMul, Nat.reduceSub, Nat.reduceLeDiff, Nat.reduceLT, reduceCtorEq, h3]
  generalize hix : nm.1.findIdx? (fun x => decide (t.name = x)) = ix
  refine aw_if rfl (fun h => ?_) (fun h => ?_)
  · have hh : ∃ i, ix = some i ∧ t.kind = 5 ∧ i < as_.length := by
      cases ix with
      | none => simp [ixI] at h
      | some i => exact ⟨i, rfl, by simp [ixI] at h; omega⟩
    obtain ⟨i, rfl, hk, hi⟩ := hh
    refine aw_sr rfl ?_  -- r3 @shape.go:88
    simp only [go_sem, reduceIte, Nat.reduceEqDiff, Nat.reduceAdd, Nat.reduceMul, Nat.reduceSub, Nat.reduceLeDiff, Nat.reduceLT, reduceCtorEq, h6, ixI, getD_map hi, eTyp_eq]
    refine ⟨⟨by omega, by omega, wid_eTyp _⟩, ?_⟩
    refine aw_ret ⟨trivial, [.agg (cTyp as_[i])], ?_, ?_, sub_hset_fresh hG6 hsB⟩
    · simp only [go_sem, reduceIte, Nat.reduceEqDiff, Nat.reduceAdd, Nat.reduceMul, Nat.reduceSub, Nat.reduceLeDiff, Nat.reduceLT, reduceCtorEq, resL, resOf, hget_hset_self h6]
    · rw [fillF_in hk hix hi]; exact Vle.refl _
  have hno : fillF nm as_ t = fillB nm as_ t := fillF_out fun i hk hn hi => by
    rw [hix] at hn
    subst hn
    simp [ixI, hk] at h
    omega
  refine aw_skip (hK1 _ _ ?_)
  refine aw_sr rfl ?_  -- r4 @shape.go:90
  simp only [go_sem, reduceIte, Nat.reduceEqDiff, Nat.reduceAdd, Nat.reduceMul, Nat.reduceSub, Nat.reduceLeDiff, Nat.reduceLT, reduceCtorEq, h3]
  intro b8 hb8
  have hG8 := sub_none hsB hb8
  have n86 : ¬ b8 = b6 := fun e => by subst e; rw [h6] at hb8; cases hb8
  refine aw_box1 hb8 fun B2 hs2 h8 => ?_
  replace h3 := hs2 _ _ h3
  replace h6 := hs2 _ _ h6
  replace hsB := sub_trans hsB hs2
  refine aw_seq fun K2 hK2 => ?_
  refine aw_sr rfl ?_  -- r5 @shape.go:91
  simp only [go_sem, reduceIte, Nat.reduceEqDiff, Nat.reduceAdd, Nat.reduceMul, Nat.reduceSub, Nat.reduceLeDiff, Nat.reduceLT, reduceCtorEq, h3]
  refine aw_range t.args.length (S := Bool × Tag × Heap) (fun i st => [(1, .sl (nm.1.map eNm) nm.2 .no), (2, .sl (as_.map eTyp) anl .no), (6, .ptr b6 0), (8, .ptr b8 0), (38, .sl (t.args.map eTyp) t.nl .no)]) (fun _ st => st.2.2)
    (fun i st => Rm G st.2.2 3 st.2.1 ∧ Sub G st.2.2 ∧ hget st.2.2 b6 = some (.vars [.int .i64 0, .str [], .sl [] true .full]) ∧ hget st.2.2 b8 = some (.vars [.int .i64 t.kind, .str t.name, .sl (((t.args.take i).map (fillF nm as_)).map eTyp) st.1 st.2.1]) ∧ st.1 = (t.args.take i).isEmpty)
    (true, .full, B2) (by omega) ?_ (fun _ _ h => h) ⟨Rm.start _ _ _, hsB, h6, by simpa using h8, by simp⟩ rfl (fun _ _ => rfl) ?_ ?_ (by decide)
  · simp only [go_sem, reduceIte, Nat.reduceEqDiff, Nat.reduceAdd, Nat.reduceMul, Nat.reduceSub, Nat.reduceLeDiff, Nat.reduceLT, reduceCtorEq, Int.natCast_zero]
  · intro i ⟨nl2, t2, H⟩ hi ⟨hr, hs, h6, h8, hnl⟩
    simp only at hr hs h6 h8 hnl ⊢
    have ham : t.args[i] ∈ t.args := List.getElem_mem hi
    have happ : ((t.args.take i).map (fillF nm as_)).map eTyp ++ [eTyp (fillF nm as_ t.args[i])] = ((t.args.take (i + 1)).map (fillF nm as_)).map eTyp := by
      rw [List.take_succ_eq_append_getElem hi]; simp only [List.map_append, List.map_cons, List.map_nil]
    refine aw_sr rfl ?_  -- r7 @shape.go:91
    simp only [go_sem, reduceIte, Nat.reduceEqDiff, Nat.reduceAdd, Nat.reduceMul, Nat.reduceSub, Nat.reduceLeDiff, Nat.reduceLT, reduceCtorEq, getD_map hi, eTyp_eq]
    refine ⟨⟨by omega, by omega, wid_eTyp _⟩, ?_⟩
    intro b10 hb10
    refine aw_box1 hb10 fun B3 hs3 h10 => ?_
    replace h6 := hs3 _ _ h6
    replace h8 := hs3 _ _ h8
    refine aw_rgd [(0,true),(1,true),(2,true),(3,true),(4,true),(5,true),(6,true),(7,false),(8,true),(9,false)] mixed rfl (by kernel_rfl) ?_  -- r8 @shape.go:92
    simp only [go_sem, reduceIte, Nat.reduceEqDiff, Nat.reduceAdd, Nat.reduceMul, Nat.reduceSub, Nat.reduceLeDiff, Nat.reduceLT, reduceCtorEq, h8, h10]
    refine goQ_by (ih t.args[i] (by have := Typ.sz_args ham; omega) (ht.arg ham)) ?_
    simp only [go_sem, reduceIte, Nat.reduceEqDiff, Nat.reduceAdd, Nat.reduceMul, Nat.reduceSub, Nat.reduceLeDiff, Nat.reduceLT, reduceCtorEq]
    refine goP_rm (hr.sub hs3) (sub_trans hs hs3) ?_ fun t' H' hr' hs' hg => ?_
    · exact ⟨rfl, rfl, by decide, wid_eTyp _, wid_one rfl, sca_one rfl, by simp; omega, by simp; omega⟩
    simp only [go_sem, reduceIte, Nat.reduceEqDiff, Nat.reduceAdd, Nat.reduceMul, Nat.reduceSub, Nat.reduceLeDiff, Nat.reduceLT, reduceCtorEq, hg.vars h8, Bool.and_false]
    refine ⟨(false, t', hset H' b8 (.vars [.int .i64 t.kind, .str t.name, .sl (((t.args.take (i + 1)).map (fillF nm as_)).map eTyp) false t'])), ⟨hr'.hset (hg.vars h8) (fun _ _ e => by cases e), sub_hset_fresh hG8 hs', ?_, hget_hset_self (hg.vars h8), (isEmpty_take_add hi).symm⟩, ?_, ?_⟩
    · rw [hget_hset_ne (fun e => n86 e.symm)]; exact hg.vars h6
    · simp only [go_sem, reduceIte, Nat.reduceEqDiff, Nat.reduceAdd, Nat.reduceMul, Nat.reduceSub, Nat.reduceLeDiff, Nat.reduceLT, reduceCtorEq]
    · rw [← happ, eTyp_eq]; exact sub_rfl
  · intro ⟨nl2, t2, H⟩ ⟨hr, hs, h6, h8, hnl⟩
    simp only at hr hs h6 h8 hnl ⊢
    rw [List.take_length] at h8 hnl
    refine hK2 _ _ ?_
    refine aw_sr rfl ?_  -- r10 @shape.go:94
    simp only [go_sem, reduceIte, Nat.reduceEqDiff, Nat.reduceAdd, Nat.reduceMul, Nat.reduceSub, Nat.reduceLeDiff, Nat.reduceLT, reduceCtorEq, h6, h8]
    refine aw_ret ⟨trivial, [.agg [.int .i64 t.kind, .str t.name, .sl ((t.args.map (fillF nm as_)).map eTyp) nl2 t2]], ?_, ?_, sub_hset_fresh hG6 hs⟩
    · simp only [go_sem, reduceIte, Nat.reduceEqDiff, Nat.reduceAdd, Nat.reduceMul, Nat.reduceSub, Nat.reduceLeDiff, Nat.reduceLT, reduceCtorEq, resL, resOf, hget_hset_self h6]
    · rw [hnl, hno]
      refine Vle.aggL ?_
      repeat (first | exact .nil | refine .cons (Vle.refl _) ?_ | refine .cons Vle.untag ?_ | refine .cons (Vle.aggL ?_) ?_ | refine .cons (Vle.slE ?_) ?_)
end Go.Proofs.Ytclmcpbanaojfaa

set_option linter.unusedSimpArgs false
set_option linter.unusedVariables false
namespace Go.Proofs.Ytclmcpbanaojfaa
open Go.Proofs.YtclmcpbanaojfaaV
set_option maxHeartbeats 400000
set_option maxRecDepth 100000
theorem q_makes1 (m : Mak) (b : Nat) (s : List UInt8) : QuietOn Try.prog [(b, .vars [.str s])] 297 ([] ++ [.agg (eMake m)] ++ [.ptr b 0]) (.bool (decide (m.1 = s))) := by
  refine QuietOn.weak fun G hG => ?_
  have hg : hget G b = some (.vars [.str s]) := hG _ _ (hget_self _ _ _)
  refine acall_body (rs := [.tmp 3]) Try.func297 rfl rfl Try.ntmps297 (by kernel_rfl) (Nat.le_of_ble_eq_true rfl) ?_
  refine aw_sr rfl ?_
  simp only [go_sem, reduceIte, Nat.reduceEqDiff, Nat.reduceAdd, Nat.reduceMul, Nat.reduceSub, Nat.reduceLeDiff, Nat.reduceLT, reduceCtorEq, e196]
  intro b2 hb
  have hne : ¬ b2 = b := by intro e; subst e; rw [hg] at hb; cases hb
  refine aw_sr rfl ?_
  simp only [go_sem, reduceIte, Nat.reduceEqDiff, Nat.reduceAdd, Nat.reduceMul, Nat.reduceSub, Nat.reduceLeDiff, Nat.reduceLT, reduceCtorEq, hne, hg]
  exact aw_ret ⟨trivial, _, rfl, Vle.refl _, hsub_at hb⟩
/-- A maker of a data, with its types filled. -/
def makesF (p : Prgm) (t : Typ) (name : List UInt8) : Option (List Typ) :=
  match dataF p t.name with
  | none => none
  | some d => match d.2.2.1.find? (fun m => decide (m.1 = name)) with
    | none => none
    | some m => if d.2.1.1.length = t.args.length ∧ m.2.1.length ≤ 6 then some (m.2.1.map (fillF d.2.1 t.args)) else none
def tysV : Option (List Typ) → V
  | none => .tup [.sl [] true .no, .bool false]
  | some ts => .tup [.sl (ts.map eTyp) ts.isEmpty .no, .bool true]
theorem q_makes (p : Prgm) (t : Typ) (name : List UInt8) (hp : o23 p.2.2.2.1) (ht : OkTyp t) : Quiet Try.prog 295 [.agg (cPrg p), .agg (cTyp t), .str name] (tysV (makesF p t name)) := by
  have htl : t.args.length ≤ 1048576 := ht.len
  refine Quiet.weak fun G => ?_
  refine acall_body (rs := [.tmp 6, .tmp 7]) Try.func295 rfl rfl Try.ntmps295 (by kernel_rfl) (Nat.le_of_ble_eq_true rfl) ?_
  refine aw_sr rfl ?_  -- r0 @shape.go:98
  simp only [go_sem, reduceIte, Nat.reduceEqDiff, Nat.reduceAdd, Nat.reduceMul, Nat.reduceSub, Nat.reduceLeDiff, Nat.reduceLT, reduceCtorEq]
  intro b3 hb3 b4 hb4 b5 hb5
  refine aw_box3 hb3 hb4 hb5 fun B1 hs1 h3 h4 h5 _ _ _ _ _ _ => ?_
  have hsB := hs1
  refine aw_sr rfl ?_  -- r1 @shape.go:99
  simp only [go_sem, reduceIte, Nat.reduceEqDiff, Nat.reduceAdd, Nat.reduceMul, Nat.reduceSub, Nat.reduceLeDiff, Nat.reduceLT, reduceCtorEq, h3, h4, e29, cTyp]
  refine goA_q (q_data p t.name hp.2.1) ?_
  simp only [go_sem, reduceIte, Nat.reduceEqDiff, Nat.reduceAdd, Nat.reduceMul, Nat.reduceSub, Nat.reduceLeDiff, Nat.reduceLT, reduceCtorEq]
  intro b8 hb8
  generalize hd : (dataF p t.name).getD zDat = d
  refine ⟨⟨by simp [e194, scalarV], rfl⟩, ?_⟩
  refine aw_box1 hb8 fun B2 hs2 h8 => ?_
  replace h3 := hs2 _ _ h3
  replace h4 := hs2 _ _ h4
  replace h5 := hs2 _ _ h5
  replace hsB := sub_trans hsB hs2
  have hml : d.2.2.1.length ≤ bulk ∧ (∀ m ∈ d.2.2.1, o30 m.2) ∧ d.2.1.1.length ≤ bulk := by
    cases hdf : dataF p t.name with
    | none => rw [hdf] at hd; subst hd; simp [zDat]
    | some d0 =>
      rw [hdf] at hd
      subst hd
      have := hp.2.2 d0 (List.mem_of_find?_eq_some hdf)
      exact ⟨this.2.2.2.1, fun m hm => (this.2.2.2.2 m hm).2, this.2.1.2.1⟩
  have hml' : d.2.2.1.length ≤ 1048576 := hml.1
  refine aw_sr rfl ?_  -- r2 @shape.go:100
  simp only [go_sem, reduceIte, Nat.reduceEqDiff, Nat.reduceAdd, Nat.reduceMul, Nat.reduceSub, Nat.reduceLeDiff, Nat.reduceLT, reduceCtorEq, h8, e194]
  refine goA_on (q_IndexMak [(b5, .vars [.str name])] 297 [] [.ptr b5 0] (fun m => decide (m.1 = name)) d.2.2.1 d.2.2.2 .no (le_bulk hml.1) fun m _ => q_makes1 m b5 name) (sub_one h5) ?_
  simp only [go_sem, reduceIte, Nat.reduceEqDiff, Nat.reduceAdd, Nat.reduceMul, Nat.reduceSub, Nat.reduceLeDiff, Nat.reduceLT, reduceCtorEq]
  refine aw_seq fun K3 hK3 => ?_
  refine aw_srq [(0,true),(1,true),(2,true),(3,true),(4,true),(5,true),(6,true),(7,true),(8,true),(9,true),(10,true),(11,true),(12,true),(13,true),(14,true),(15,true),(16,true),(17,true),(18,true),(19,true),(20,true),(21,true),(22,true),(23,true),(24,true)] rfl rfl ?_  -- r3
  rcases find_ix (fun m : Mak => decide (m.1 = name)) d.2.2.1 with ⟨e1, e2⟩ | ⟨i, hi, e1, e2⟩
  · have hpf : makesF p t name = none := by
      unfold makesF
      cases hdf : dataF p t.name with
      | none => rfl
      | some d0 => rw [hdf] at hd; subst hd; simp only [Option.getD_some] at e1; simp only [e1]
    rw [e2]
    have hneg : decide ((ixI none : Int) < 0) = true := rfl
    have hcs : (d.2.2.1.map eMake).getD (ixI none).toNat [] = [] ∨ ∃ d0, (d.2.2.1.map eMake).getD (ixI none).toNat [] = eMake d0 := by
      cases d.2.2.1 with
      | nil => exact .inl rfl
      | cons d0 ds => exact .inr ⟨d0, rfl⟩
    rcases hcs with hcs | ⟨d0, hcs⟩
    all_goals
      simp only [go_sem, reduceIte, Nat.reduceEqDiff, Nat.reduceAdd, Nat.reduceMul, Nat.reduceSub, Nat.reduceLeDiff, Nat.reduceLT, reduceCtorEq, h4, h8, cTyp, e194, hneg, hcs, e196, not_true_eq_false, false_implies, true_and, Bool.or_true, Bool.true_or, Bool.not_true]
      refine aw_if (b := true) rfl (fun h => ?_) (fun h => by cases h)
      refine aw_sr rfl ?_  -- r4 @shape.go:102
      simp only [go_sem, reduceIte, Nat.reduceEqDiff, Nat.reduceAdd, Nat.reduceMul, Nat.reduceSub, Nat.reduceLeDiff, Nat.reduceLT, reduceCtorEq]
      refine aw_ret ⟨trivial, _, rfl, ?_, hsB⟩
      rw [hpf]
      exact Vle.tupL (.cons Vle.untag (.cons (Vle.refl _) .nil))
  obtain ⟨d0, hdf⟩ : ∃ d0, dataF p t.name = some d0 := by
    cases hdf : dataF p t.name with
    | none => rw [hdf] at hd; subst hd; simp [zDat] at hi
    | some d0 => exact ⟨d0, rfl⟩
  rw [hdf] at hd ⊢
  simp only [Option.getD_some] at hd
  subst hd
  generalize hm : d0.2.2.1[i] = m at e1
  have hmm : m ∈ d0.2.2.1 := by rw [← hm]; exact List.getElem_mem hi
  have hmo := hml.2.1 m hmm
  have hma' : m.2.1.length ≤ 1048576 := hmo.len
  have hneg : decide ((ixI (some i) : Int) < 0) = false := decide_eq_false (by simp only [ixI]; omega)
  have hpf : makesF p t name = if d0.2.1.1.length = t.args.length ∧ m.2.1.length ≤ 6 then some (m.2.1.map (fillF d0.2.1 t.args)) else none := by
    unfold makesF
    rw [hdf]
    simp only [e1]
  rw [e2]
  simp only [go_sem, reduceIte, Nat.reduceEqDiff, Nat.reduceAdd, Nat.reduceMul, Nat.reduceSub, Nat.reduceLeDiff, Nat.reduceLT, reduceCtorEq, h4, h8, cTyp, e194, hneg, ixI, getD_map hi, hm, e196]
  refine ⟨fun _ => ⟨by omega, by omega, wid_map (g := eMake) (fun _ => rfl) _⟩, ?_⟩
  refine aw_if rfl (fun h => ?_) (fun h => ?_)
  · refine aw_sr rfl ?_  -- r4 @shape.go:102
    simp only [go_sem, reduceIte, Nat.reduceEqDiff, Nat.reduceAdd, Nat.reduceMul, Nat.reduceSub, Nat.reduceLeDiff, Nat.reduceLT, reduceCtorEq]
    refine aw_ret ⟨trivial, _, rfl, ?_, hsB⟩
    rw [hpf, if_neg (by simp at h; omega)]
    exact Vle.tupL (.cons Vle.untag (.cons (Vle.refl _) .nil))
  have hcond : d0.2.1.1.length = t.args.length ∧ m.2.1.length ≤ 6 := by simp at h; omega
  rw [if_pos hcond] at hpf
  refine aw_skip (hK3 _ _ ?_)
  refine aw_sr rfl ?_  -- r5 @shape.go:104
  simp only [go_sem, reduceIte, Nat.reduceEqDiff, Nat.reduceAdd, Nat.reduceMul, Nat.reduceSub, Nat.reduceLeDiff, Nat.reduceLT, reduceCtorEq]
  refine aw_seq fun K4 hK4 => ?_
  refine aw_sr rfl ?_  -- r6 @shape.go:105
  simp only [go_sem, reduceIte, Nat.reduceEqDiff, Nat.reduceAdd, Nat.reduceMul, Nat.reduceSub, Nat.reduceLeDiff, Nat.reduceLT, reduceCtorEq, h8, e194, getD_map hi, hm, e196]
  refine ⟨⟨by omega, by omega, wid_map (g := eMake) (fun _ => rfl) _⟩, ?_⟩
  refine aw_range m.2.1.length (S := Bool × Tag × Heap) (fun j st => [(4, .ptr b4 0), (8, .ptr b8 0), (11, .sl (((m.2.1.take j).map (fillF d0.2.1 t.args)).map eTyp) st.1 st.2.1), (55, .sl (m.2.1.map eTyp) m.2.2 .no)]) (fun _ st => st.2.2)
    (fun j st => Rm G st.2.2 3 st.2.1 ∧ Sub G st.2.2 ∧ hget st.2.2 b4 = some (.vars (cTyp t)) ∧ hget st.2.2 b8 = some (.vars (eData d0)) ∧ st.1 = (m.2.1.take j).isEmpty)
    (true, .full, B2) (by omega) ?_ (fun _ _ h => h) ⟨Rm.start _ _ _, hsB, h4, h8, by simp⟩ rfl (fun _ _ => rfl) ?_ ?_ (by decide)
  · simp only [go_sem, reduceIte, Nat.reduceEqDiff, Nat.reduceAdd, Nat.reduceMul, Nat.reduceSub, Nat.reduceLeDiff, Nat.reduceLT, reduceCtorEq, Int.natCast_zero, List.take_zero, List.map_nil]
  · intro j ⟨nl2, t2, H⟩ hj ⟨hr, hs, h4, h8, hnl⟩
    simp only at hr hs h4 h8 hnl ⊢
    have ham : m.2.1[j] ∈ m.2.1 := List.getElem_mem hj
    have happ : ((m.2.1.take j).map (fillF d0.2.1 t.args)).map eTyp ++ [eTyp (fillF d0.2.1 t.args m.2.1[j])] = ((m.2.1.take (j + 1)).map (fillF d0.2.1 t.args)).map eTyp := by
      rw [List.take_succ_eq_append_getElem hj]; simp only [List.map_append, List.map_cons, List.map_nil]
    rw [eTyp_eq] at happ
    refine aw_sr rfl ?_  -- r8 @shape.go:105
    simp only [go_sem, reduceIte, Nat.reduceEqDiff, Nat.reduceAdd, Nat.reduceMul, Nat.reduceSub, Nat.reduceLeDiff, Nat.reduceLT, reduceCtorEq, getD_map hj, eTyp_eq]
    refine ⟨⟨by omega, by omega, wid_eTyp _⟩, ?_⟩
    intro b13 hb13
    refine aw_box1 hb13 fun B3 hs3 h13 => ?_
    replace h4 := hs3 _ _ h4
    replace h8 := hs3 _ _ h8
    refine aw_rg rfl ?_  -- r9 @shape.go:106
    simp only [go_sem, reduceIte, Nat.reduceEqDiff, Nat.reduceAdd, Nat.reduceMul, Nat.reduceSub, Nat.reduceLeDiff, Nat.reduceLT, reduceCtorEq, h4, h8, h13, cTyp, e194]
    refine goA_q (q_filled d0.2.1 t.args t.nl hml.2.2 ht.len _ m.2.1[j] (Nat.le_refl _) (hmo.mem ham).1) ?_
    simp only [go_sem, reduceIte, Nat.reduceEqDiff, Nat.reduceAdd, Nat.reduceMul, Nat.reduceSub, Nat.reduceLeDiff, Nat.reduceLT, reduceCtorEq]
    refine goP_rm (hr.sub hs3) (sub_trans hs hs3) ?_ fun t' H' hr' hs' hg => ?_
    · exact ⟨rfl, rfl, by decide, wid_eTyp _, wid_one rfl, sca_one rfl, by simp; omega, by simp; omega⟩
    simp only [go_sem, reduceIte, Nat.reduceEqDiff, Nat.reduceAdd, Nat.reduceMul, Nat.reduceSub, Nat.reduceLeDiff, Nat.reduceLT, reduceCtorEq, Bool.and_false, happ]
    refine ⟨(false, t', H'), ⟨hr', hs', hg.vars h4, hg.vars h8, (isEmpty_take_add hj).symm⟩, ?_, sub_rfl⟩
    simp only [go_sem, reduceIte, Nat.reduceEqDiff, Nat.reduceAdd, Nat.reduceMul, Nat.reduceSub, Nat.reduceLeDiff, Nat.reduceLT, reduceCtorEq]
  intro ⟨nl2, t2, H⟩ ⟨hr, hs, h4, h8, hnl⟩
  simp only at hr hs h4 h8 hnl ⊢
  rw [List.take_length] at hnl
  refine hK4 _ _ ?_
  refine aw_sr rfl ?_  -- r11 @shape.go:108
  simp only [go_sem, reduceIte, Nat.reduceEqDiff, Nat.reduceAdd, Nat.reduceMul, Nat.reduceSub, Nat.reduceLeDiff, Nat.reduceLT, reduceCtorEq, List.take_length]
  refine aw_ret ⟨trivial, _, rfl, ?_, hs⟩
  rw [hpf, hnl]
  refine Vle.tupL (.cons ?_ (.cons (Vle.refl _) .nil))
  rw [show m.2.1.isEmpty = (m.2.1.map (fillF d0.2.1 t.args)).isEmpty by rw [List.isEmpty_map]]
  exact Vle.untag
theorem makesF_ok {p : Prgm} {t : Typ} {name : List UInt8} {ts : List Typ} (hp : o23 p.2.2.2.1) (ht : OkTyp t) (h : makesF p t name = some ts) : ts.length ≤ 6 ∧ ∀ a ∈ ts, OkTyp a := by
  unfold makesF at h
  cases hd : dataF p t.name with
  | none => rw [hd] at h; cases h
  | some d =>
    rw [hd] at h
    simp only at h
    split at h
    · cases h
    · rename_i m hm
      split at h
      · rename_i hc
        cases h
        have hdo := hp.2.2 d (List.mem_of_find?_eq_some hd)
        have hmo := (hdo.2.2.2.2 m (List.mem_of_find?_eq_some hm)).2
        refine ⟨by rw [List.length_map]; exact hc.2, fun a ha => ?_⟩
        obtain ⟨b, hb, rfl⟩ := List.mem_map.1 ha
        exact fillF_ok (fun a ha => ht.arg ha) (hmo.mem hb).1
      · cases h
end Go.Proofs.Ytclmcpbanaojfaa

set_option linter.unusedSimpArgs false
set_option linter.unusedVariables false
namespace Go.Proofs.Ytclmcpbanaojfaa
open Go.Proofs.YtclmcpbanaojfaaV
set_option maxHeartbeats 400000
set_option maxRecDepth 100000
def zVal : Val := .mk 0 0 [] [] true
/-- First values of types, if each has one. -/
def allF (F : Typ → Val × Bool) (ts : List Typ) : Option (List Val) := if ts.all (fun a => (F a).2) = true then some (ts.map fun a => (F a).1) else none
def gsF (p : Prgm) (d : Int) (F : Typ → Val × Bool) (t : Typ) (name : List UInt8) : Option (List Val) :=
  match makesF p t name with
  | none => none
  | some ts => if d < 0 then none else allF F ts
def valsV : Option (List Val) → V
  | none => .tup [.sl [] true .no, .bool false]
  | some l => .tup [.sl (l.map eVal) l.isEmpty .no, .bool true]
def leafK (k : Int) : Int := if k = 1 then 2 else if k = 2 then 3 else if k = 3 then 4 else 1
/-- The first value of a type, by those of its parts. -/
def firstS (p : Prgm) (d : Int) (F : Typ → Val × Bool) (t : Typ) : Val × Bool :=
  if t.kind = 1 ∨ t.kind = 2 ∨ t.kind = 3 ∨ t.kind = 4 then (.mk (leafK t.kind) 0 [] [] true, true)
  else if t.kind = 9 then (match t.args with | [a] => if d = 0 then (zVal, false) else (.mk 8 0 [] [(F a).1] false, (F a).2) | _ => (zVal, false))
  else if t.kind = 6 then (match ((dataF p t.name).getD zDat).2.2.1.find? (fun m => (gsF p (d - 1) F t m.1).isSome) with
    | none => (zVal, false)
    | some m => (.mk 5 0 m.1 ((gsF p (d - 1) F t m.1).getD []) ((gsF p (d - 1) F t m.1).getD []).isEmpty, true))
  else (zVal, false)
def firstV (x : Val × Bool) : V := .tup [.agg (cV x.1), .bool x.2]
theorem allF_not {F : Typ → Val × Bool} {ts : List Typ} {i : Nat} (hi : i < ts.length) (h : (F ts[i]).2 = false) : allF F ts = none := by
  unfold allF
  rw [if_neg]
  intro e
  rw [List.all_eq_true] at e
  rw [e _ (List.getElem_mem hi)] at h
  cases h
theorem q_firsts (p : Prgm) (d : Int) (F : Typ → Val × Bool) (t : Typ) (name : List UInt8) (hp : o23 p.2.2.2.1) (ht : OkTyp t)
    (hF : 0 ≤ d → ∀ a, OkTyp a → Quiet Try.prog 275 [.agg (cPrg p), .agg (cTyp a), .int .i64 d] (firstV (F a))) :
    Quiet Try.prog 290 [.agg (cPrg p), .agg (cTyp t), .str name, .int .i64 d] (valsV (gsF p d F t name)) := by
  have hok := fun ts => makesF_ok (p := p) (t := t) (name := name) (ts := ts) hp ht
  refine Quiet.weak fun G => ?_
  refine acall_body (rs := [.tmp 8, .tmp 9]) Try.func290 rfl rfl Try.ntmps290 (by kernel_rfl) (Nat.le_of_ble_eq_true rfl) ?_
  refine aw_sr rfl ?_  -- r0 @shape.go:196
  simp only [go_sem, reduceIte, Nat.reduceEqDiff, Nat.reduceAdd, Nat.reduceMul, Nat.reduceSub, Nat.reduceLeDiff, Nat.reduceLT, reduceCtorEq]
  intro b4 hb4 b5 hb5
  refine aw_box2 hb4 hb5 fun B1 hs1 h4 h5 _ _ => ?_
  have hsB := hs1
  refine aw_sr rfl ?_  -- r1 @shape.go:197
  simp only [go_sem, reduceIte, Nat.reduceEqDiff, Nat.reduceAdd, Nat.reduceMul, Nat.reduceSub, Nat.reduceLeDiff, Nat.reduceLT, reduceCtorEq, h4, h5, e29, cTyp]
  refine goA_q (q_makes p t name hp ht) ?_
  cases hmk : makesF p t name with
  | none =>
    simp only [go_sem, reduceIte, Nat.reduceEqDiff, Nat.reduceAdd, Nat.reduceMul, Nat.reduceSub, Nat.reduceLeDiff, Nat.reduceLT, reduceCtorEq, tysV]
    refine aw_seq fun K1 hK1 => ?_
    refine aw_sr rfl ?_  -- r2 @shape.go:198
    simp only [go_sem, reduceIte, Nat.reduceEqDiff, Nat.reduceAdd, Nat.reduceMul, Nat.reduceSub, Nat.reduceLeDiff, Nat.reduceLT, reduceCtorEq]
    refine aw_if (b := true) rfl (fun h => ?_) (fun h => by cases h)
    refine aw_sr rfl ?_  -- r3 @shape.go:199
    simp only [go_sem, reduceIte, Nat.reduceEqDiff, Nat.reduceAdd, Nat.reduceMul, Nat.reduceSub, Nat.reduceLeDiff, Nat.reduceLT, reduceCtorEq]
    refine aw_ret ⟨trivial, _, rfl, ?_, hsB⟩
    unfold gsF; rw [hmk]
    exact Vle.tupL (.cons Vle.untag (.cons (Vle.refl _) .nil))
  | some ts =>
    obtain ⟨ht6, hta⟩ := hok ts hmk
    have hgs : gsF p d F t name = if d < 0 then none else allF F ts := by unfold gsF; rw [hmk]
    rw [hgs]
    clear hgs hmk hok
    simp only [go_sem, reduceIte, Nat.reduceEqDiff, Nat.reduceAdd, Nat.reduceMul, Nat.reduceSub, Nat.reduceLeDiff, Nat.reduceLT, reduceCtorEq, tysV]
    refine aw_seq fun K1 hK1 => ?_
    refine aw_sr rfl ?_  -- r2 @shape.go:198
    simp only [go_sem, reduceIte, Nat.reduceEqDiff, Nat.reduceAdd, Nat.reduceMul, Nat.reduceSub, Nat.reduceLeDiff, Nat.reduceLT, reduceCtorEq]
    refine aw_if rfl (fun h => ?_) (fun h => ?_)
    · have hd : d < 0 := by simpa using h
      refine aw_sr rfl ?_  -- r3 @shape.go:199
      simp only [go_sem, reduceIte, Nat.reduceEqDiff, Nat.reduceAdd, Nat.reduceMul, Nat.reduceSub, Nat.reduceLeDiff, Nat.reduceLT, reduceCtorEq]
      refine aw_ret ⟨trivial, _, rfl, ?_, hsB⟩
      rw [if_pos hd]
      exact Vle.tupL (.cons Vle.untag (.cons (Vle.refl _) .nil))
    have hd : 0 ≤ d := by simpa using h
    have hd' : ¬ d < 0 := by omega
    refine aw_skip (hK1 _ _ ?_)
    refine aw_sr rfl ?_  -- r4 @shape.go:201
    simp only [go_sem, reduceIte, Nat.reduceEqDiff, Nat.reduceAdd, Nat.reduceMul, Nat.reduceSub, Nat.reduceLeDiff, Nat.reduceLT, reduceCtorEq]
    refine aw_seq fun K2 hK2 => ?_
    refine aw_sr rfl ?_  -- r5 @shape.go:202
    simp only [go_sem, reduceIte, Nat.reduceEqDiff, Nat.reduceAdd, Nat.reduceMul, Nat.reduceSub, Nat.reduceLeDiff, Nat.reduceLT, reduceCtorEq]
    refine aw_range ts.length (S := Bool × Tag × Heap) (fun i st => [(3, .int .i64 d), (4, .ptr b4 0), (12, .sl (((ts.take i).map fun a => (F a).1).map eVal) st.1 st.2.1), (30, .sl (ts.map eTyp) ts.isEmpty .no)]) (fun _ st => st.2.2)
      (fun i st => Rm G st.2.2 4 st.2.1 ∧ Sub G st.2.2 ∧ hget st.2.2 b4 = some (.vars (cPrg p)) ∧ st.1 = (ts.take i).isEmpty ∧ ∀ k (hk : k < ts.length), k < i → (F ts[k]).2 = true)
      (true, .full, B1) (by omega) ?_ (fun _ _ h => h) ⟨Rm.start _ _ _, hsB, h4, by simp, fun k _ hk => absurd hk (by omega)⟩ rfl (fun _ _ => rfl) ?_ ?_ (by decide)
    · simp only [go_sem, reduceIte, Nat.reduceEqDiff, Nat.reduceAdd, Nat.reduceMul, Nat.reduceSub, Nat.reduceLeDiff, Nat.reduceLT, reduceCtorEq, Int.natCast_zero, List.take_zero, List.map_nil]
    · intro i ⟨nl2, t2, H⟩ hi ⟨hr, hs, h4, hnl, he⟩
      simp only at hr hs h4 hnl he ⊢
      have ham : ts[i] ∈ ts := List.getElem_mem hi
      have happ : ((ts.take i).map fun a => (F a).1).map eVal ++ [eVal (F ts[i]).1] = ((ts.take (i + 1)).map fun a => (F a).1).map eVal := by
        rw [List.take_succ_eq_append_getElem hi]; simp only [List.map_append, List.map_cons, List.map_nil]
      rw [eC] at happ
      refine aw_sr rfl ?_  -- r7 @shape.go:202
      simp only [go_sem, reduceIte, Nat.reduceEqDiff, Nat.reduceAdd, Nat.reduceMul, Nat.reduceSub, Nat.reduceLeDiff, Nat.reduceLT, reduceCtorEq, getD_map hi, eTyp_eq]
      refine ⟨⟨by omega, by omega, wid_eTyp _⟩, ?_⟩
      intro b14 hb14
      refine aw_box1 hb14 fun B2 hs2 h14 => ?_
      replace h4 := hs2 _ _ h4
      refine aw_sr rfl ?_  -- r8 @shape.go:203
      simp only [go_sem, reduceIte, Nat.reduceEqDiff, Nat.reduceAdd, Nat.reduceMul, Nat.reduceSub, Nat.reduceLeDiff, Nat.reduceLT, reduceCtorEq, h4, h14, e29]
      refine goA_q (hF hd ts[i] (hta _ ham)) ?_
      simp only [go_sem, reduceIte, Nat.reduceEqDiff, Nat.reduceAdd, Nat.reduceMul, Nat.reduceSub, Nat.reduceLeDiff, Nat.reduceLT, reduceCtorEq, firstV, cV]
      intro b15 hb15
      refine aw_box1 hb15 fun B3 hs3 h15 => ?_
      replace h4 := hs3 _ _ h4
      have hs23 := sub_trans hs2 hs3
      refine aw_seq fun K3 hK3 => ?_
      refine aw_sr rfl ?_  -- r9 @shape.go:204
      simp only [go_sem, reduceIte, Nat.reduceEqDiff, Nat.reduceAdd, Nat.reduceMul, Nat.reduceSub, Nat.reduceLeDiff, Nat.reduceLT, reduceCtorEq]
      refine aw_if rfl (fun h => ?_) (fun h => ?_)
      · have h : (F ts[i]).2 = false := by simpa using h
        refine aw_sr rfl ?_  -- r10 @shape.go:205
        simp only [go_sem, reduceIte, Nat.reduceEqDiff, Nat.reduceAdd, Nat.reduceMul, Nat.reduceSub, Nat.reduceLeDiff, Nat.reduceLT, reduceCtorEq]
        refine aw_ret ⟨trivial, _, rfl, ?_, sub_trans hs hs23⟩
        rw [if_neg hd', allF_not hi h]
        exact Vle.tupL (.cons Vle.untag (.cons (Vle.refl _) .nil))
      have h : (F ts[i]).2 = true := by simpa using h
      refine aw_skip (hK3 _ _ ?_)
      refine aw_rg rfl ?_  -- r11 @shape.go:207
      simp only [go_sem, reduceIte, Nat.reduceEqDiff, Nat.reduceAdd, Nat.reduceMul, Nat.reduceSub, Nat.reduceLeDiff, Nat.reduceLT, reduceCtorEq, h15]
      refine goP_rm (hr.sub hs23) (sub_trans hs hs23) ?_ fun t' H' hr' hs' hg => ?_
      · exact ⟨rfl, rfl, by decide, wid_Val _, wid_one rfl, sca_one rfl, by simp; omega, by simp; omega⟩
      simp only [go_sem, reduceIte, Nat.reduceEqDiff, Nat.reduceAdd, Nat.reduceMul, Nat.reduceSub, Nat.reduceLeDiff, Nat.reduceLT, reduceCtorEq, Bool.and_false, happ]
      refine ⟨(false, t', H'), ⟨hr', hs', hg.vars h4, (isEmpty_take_add hi).symm, fun k hk hlt => ?_⟩, ?_, sub_rfl⟩
      · by_cases e : k = i
        · subst e; exact h
        · exact he k hk (by omega)
      simp only [go_sem, reduceIte, Nat.reduceEqDiff, Nat.reduceAdd, Nat.reduceMul, Nat.reduceSub, Nat.reduceLeDiff, Nat.reduceLT, reduceCtorEq]
    intro ⟨nl2, t2, H⟩ ⟨hr, hs, h4, hnl, he⟩
    simp only at hr hs h4 hnl he ⊢
    rw [List.take_length] at hnl
    refine hK2 _ _ ?_
    refine aw_sr rfl ?_  -- r13 @shape.go:209
    simp only [go_sem, reduceIte, Nat.reduceEqDiff, Nat.reduceAdd, Nat.reduceMul, Nat.reduceSub, Nat.reduceLeDiff, Nat.reduceLT, reduceCtorEq, List.take_length]
    refine aw_ret ⟨trivial, _, rfl, ?_, hs⟩
    have : allF F ts = some (ts.map fun a => (F a).1) := by
      unfold allF
      rw [if_pos]
      rw [List.all_eq_true]
      intro a ha
      obtain ⟨k, hk, rfl⟩ := List.getElem_of_mem ha
      exact he k hk hk
    rw [if_neg hd', this, hnl]
    refine Vle.tupL (.cons ?_ (.cons (Vle.refl _) .nil))
    rw [show ts.isEmpty = (ts.map fun a => (F a).1).isEmpty by rw [List.isEmpty_map]]
    exact Vle.untag
theorem gsF_neg (p : Prgm) {d : Int} (F : Typ → Val × Bool) (t : Typ) (name : List UInt8) (h : d < 0) : gsF p d F t name = none := by
  unfold gsF
  split
  · rfl
  · rw [if_pos h]
theorem q_firstS (p : Prgm) (d : Int) (F : Typ → Val × Bool) (t : Typ) (hp : o23 p.2.2.2.1) (ht : OkTyp t) (hd0 : 0 ≤ d) (hd1 : d ≤ 1000)
    (hF : 0 ≤ d - 1 → ∀ a, OkTyp a → Quiet Try.prog 275 [.agg (cPrg p), .agg (cTyp a), .int .i64 (d - 1)] (firstV (F a))) :
    Quiet Try.prog 275 [.agg (cPrg p), .agg (cTyp t), .int .i64 d] (firstV (firstS p d F t)) := by
  have hw1 : IntKind.i64.wrap (d - 1) = d - 1 := wrap64 (by omega) (by omega)
  refine Quiet.weak fun G => ?_
  refine acall_body (rs := [.cell 6 110, .tmp 7]) Try.func275 rfl rfl Try.ntmps275 (by kernel_rfl) (Nat.le_of_ble_eq_true rfl) ?_
  refine aw_sr rfl ?_  -- r0 @shape.go:174
  simp only [go_sem, reduceIte, Nat.reduceEqDiff, Nat.reduceAdd, Nat.reduceMul, Nat.reduceSub, Nat.reduceLeDiff, Nat.reduceLT, reduceCtorEq]
  intro b3 hb3 b4 hb4 b6 hb6
  have hG6 := (fresh_cons (fresh_cons hb6).2).2
  refine aw_box3 hb3 hb4 hb6 fun B1 hs1 h3 h4 h6 _ _ _ _ _ _ => ?_
  have hsB := hs1
  refine aw_mid (fun f' G' => FSub [(6, .ptr b6 0)] f' ∧ Sub G G' ∧ hget G' b6 = some (.vars [.int .i64 0, .int .i64 0, .str [], .sl [] true .full]) ∧ firstS p d F t = (zVal, false)) ?_ ?_
  case refine_2 =>
    intro f' G' ⟨hf, hg, h6, he⟩
    refine AW.of_fsub hf ?_
    refine aw_sr rfl ?_  -- r21 @shape.go:192
    simp only [go_sem, reduceIte, Nat.reduceEqDiff, Nat.reduceAdd, Nat.reduceMul, Nat.reduceSub, Nat.reduceLeDiff, Nat.reduceLT, reduceCtorEq, h6]
    refine aw_ret ⟨trivial, [.agg [.int .i64 0, .int .i64 0, .str [], .sl [] true .full], .bool false], ?_, ?_, sub_hset_fresh hG6 hg⟩
    · simp only [go_sem, reduceIte, Nat.reduceEqDiff, Nat.reduceAdd, Nat.reduceMul, Nat.reduceSub, Nat.reduceLeDiff, Nat.reduceLT, reduceCtorEq, resL, resOf, hget_hset_self h6]
    rw [he]
    exact Vle.tupL (.cons (Vle.aggL (.cons (Vle.refl _) (.cons (Vle.refl _) (.cons (Vle.refl _) (.cons Vle.untag .nil))))) (.cons (Vle.refl _) .nil))
  refine aw_sr rfl ?_  -- r1 @shape.go:175
  simp only [go_sem, reduceIte, Nat.reduceEqDiff, Nat.reduceAdd, Nat.reduceMul, Nat.reduceSub, Nat.reduceLeDiff, Nat.reduceLT, reduceCtorEq, h4, cTyp]
  refine aw_block ?_  -- 0
  refine aw_mid (fun f' G' => ∃ c, (c = true ↔ (t.kind = 1 ∨ t.kind = 2 ∨ t.kind = 3 ∨ t.kind = 4)) ∧ FSub [(18, .bool c), (2, .int .i64 d), (3, .ptr b3 0), (4, .ptr b4 0), (6, .ptr b6 0), (17, .int .i64 t.kind)] f' ∧ G' = B1) ?_ ?_
  · -- 4 ways
    refine aw_sr rfl ?_
    simp only [go_sem, reduceIte, Nat.reduceEqDiff, Nat.reduceAdd, Nat.reduceMul, Nat.reduceSub, Nat.reduceLeDiff, Nat.reduceLT, reduceCtorEq]
    refine aw_if rfl (fun h => ?_) (fun h => ?_)
    · exact aw_skip ⟨decide (t.kind = 1), by have : t.kind = 1 := by simpa using h
                                             simp [this], ⟨rfl, rfl, rfl, rfl, rfl, rfl⟩, rfl⟩
    have k1 : ¬ t.kind = 1 := by simpa using h
    refine aw_sr rfl ?_
    simp only [go_sem, reduceIte, Nat.reduceEqDiff, Nat.reduceAdd, Nat.reduceMul, Nat.reduceSub, Nat.reduceLeDiff, Nat.reduceLT, reduceCtorEq]
    refine aw_if rfl (fun h => ?_) (fun h => ?_)
    · exact aw_skip ⟨decide (t.kind = 2), by have : t.kind = 2 := by simpa using h
                                             simp [this], ⟨rfl, rfl, rfl, rfl, rfl, rfl⟩, rfl⟩
    have k2 : ¬ t.kind = 2 := by simpa using h
    refine aw_sr rfl ?_
    simp only [go_sem, reduceIte, Nat.reduceEqDiff, Nat.reduceAdd, Nat.reduceMul, Nat.reduceSub, Nat.reduceLeDiff, Nat.reduceLT, reduceCtorEq]
    refine aw_if rfl (fun h => ?_) (fun h => ?_)
    · exact aw_skip ⟨decide (t.kind = 3), by have : t.kind = 3 := by simpa using h
                                             simp [this], ⟨rfl, rfl, rfl, rfl, rfl, rfl⟩, rfl⟩
    have k3 : ¬ t.kind = 3 := by simpa using h
    refine aw_rg rfl ?_
    simp only [go_sem, reduceIte, Nat.reduceEqDiff, Nat.reduceAdd, Nat.reduceMul, Nat.reduceSub, Nat.reduceLeDiff, Nat.reduceLT, reduceCtorEq]
    exact ⟨decide (t.kind = 4), by simp [k1, k2, k3], ⟨rfl, rfl, rfl, rfl, rfl, rfl⟩, rfl⟩
  intro f' G' ⟨c, hc, hf, hg⟩
  rw [hg]
  refine AW.of_fsub hf ?_
  refine aw_if rfl (fun h => ?_) (fun h => ?_)
  · have hks := hc.1 h
    have hE : firstS p d F t = (.mk (leafK t.kind) 0 [] [] true, true) := by unfold firstS; rw [if_pos hks]
    rw [hE]
    have f0 : mfind (.int .i64 1) [] 0 = some none := rfl
    have f1 : mfind (.int .i64 2) [(.int .i64 1, .int .i64 2)] 0 = some none := rfl
    have f2 : mfind (.int .i64 3) [(.int .i64 1, .int .i64 2), (.int .i64 2, .int .i64 3)] 0 = some none := rfl
    have f3 : mfind (.int .i64 4) [(.int .i64 1, .int .i64 2), (.int .i64 2, .int .i64 3), (.int .i64 3, .int .i64 4)] 0 = some none := rfl
    have hx1 : ∃ j, mfind (.int .i64 t.kind) [(.int .i64 1, .int .i64 2), (.int .i64 2, .int .i64 3), (.int .i64 3, .int .i64 4), (.int .i64 4, .int .i64 1)] 0 = some (some (j, .int .i64 (leafK t.kind))) := by
      rcases hks with e | e | e | e <;> rw [e] <;> exact ⟨_, rfl⟩
    obtain ⟨j, hx1⟩ := hx1
    have hkk : (IntKind.i64 == IntKind.i64) = true := rfl
    refine aw_sr rfl ?_
    simp only [go_sem, reduceIte, Nat.reduceEqDiff, Nat.reduceAdd, Nat.reduceMul, Nat.reduceSub, Nat.reduceLeDiff, Nat.reduceLT, reduceCtorEq, f0, f1, f2, f3, hx1, mput, h4, h6, cTyp, hkk]
    intro bm hbm
    have n4 : ¬ bm = b4 := by intro e; subst e; rw [h4] at hbm; cases hbm
    have n6 : ¬ bm = b6 := by intro e; subst e; rw [h6] at hbm; cases hbm
    simp only [go_sem, reduceIte, Nat.reduceEqDiff, Nat.reduceAdd, Nat.reduceMul, Nat.reduceSub, Nat.reduceLeDiff, Nat.reduceLT, reduceCtorEq, f0, f1, f2, f3, hx1, mput, h4, h6, cTyp, hkk, n4, n6]
    refine aw_ret ⟨trivial, [.agg [.int .i64 (leafK t.kind), .int .i64 0, .str [], .sl [] true .full], .bool true], ?_, ?_, sub_fresh (sub_none hsB hbm) (sub_hset_fresh hG6 hsB)⟩
    · simp only [go_sem, reduceIte, Nat.reduceEqDiff, Nat.reduceAdd, Nat.reduceMul, Nat.reduceSub, Nat.reduceLeDiff, Nat.reduceLT, reduceCtorEq, resL, resOf, hget_cons_ne n6, hget_hset_self h6]
    exact Vle.tupL (.cons (Vle.aggL (.cons (Vle.refl _) (.cons (Vle.refl _) (.cons (Vle.refl _) (.cons Vle.untag .nil))))) (.cons (Vle.refl _) .nil))
  have hnk : ¬ (t.kind = 1 ∨ t.kind = 2 ∨ t.kind = 3 ∨ t.kind = 4) := fun q => by rw [hc.2 q] at h; cases h
  refine aw_sr rfl ?_  -- r7 @shape.go:178
  simp only [go_sem, reduceIte, Nat.reduceEqDiff, Nat.reduceAdd, Nat.reduceMul, Nat.reduceSub, Nat.reduceLeDiff, Nat.reduceLT, reduceCtorEq]
  refine aw_if rfl (fun h => ?_) (fun h => ?_)
  · have k9 : t.kind = 9 := by simpa using h
    refine aw_seq fun K1 hK1 => ?_
    refine aw_sr rfl ?_  -- r8 @shape.go:179
    simp only [go_sem, reduceIte, Nat.reduceEqDiff, Nat.reduceAdd, Nat.reduceMul, Nat.reduceSub, Nat.reduceLeDiff, Nat.reduceLT, reduceCtorEq, h4, cTyp]
    refine aw_if rfl (fun h => ?_) (fun h => ?_)
    · have hE : firstS p d F t = (zVal, false) := by
        unfold firstS
        rw [if_neg hnk, if_pos k9]
        split
        · rename_i a ha
          rw [ha] at h
          rw [if_pos (by simpa using h)]
        · rfl
      refine aw_sr rfl ?_  -- r9 @shape.go:180
      simp only [go_sem, reduceIte, Nat.reduceEqDiff, Nat.reduceAdd, Nat.reduceMul, Nat.reduceSub, Nat.reduceLeDiff, Nat.reduceLT, reduceCtorEq, h6]
      refine aw_ret ⟨trivial, [.agg [.int .i64 0, .int .i64 0, .str [], .sl [] true .full], .bool false], ?_, ?_, sub_hset_fresh hG6 hsB⟩
      · simp only [go_sem, reduceIte, Nat.reduceEqDiff, Nat.reduceAdd, Nat.reduceMul, Nat.reduceSub, Nat.reduceLeDiff, Nat.reduceLT, reduceCtorEq, resL, resOf, hget_hset_self h6]
      rw [hE]
      exact Vle.tupL (.cons (Vle.aggL (.cons (Vle.refl _) (.cons (Vle.refl _) (.cons (Vle.refl _) (.cons Vle.untag .nil))))) (.cons (Vle.refl _) .nil))
    have hcd : t.args.length = 1 ∧ d ≠ 0 := by
      simp at h; omega
    obtain ⟨a, ha⟩ : ∃ a, t.args = [a] := by
      match hh : t.args with
      | [a] => exact ⟨a, rfl⟩
      | [] => rw [hh] at hcd; simp at hcd
      | _ :: _ :: _ => rw [hh] at hcd; simp at hcd
    have hE : firstS p d F t = (.mk 8 0 [] [(F a).1] false, (F a).2) := by
      unfold firstS
      rw [if_neg hnk, if_pos k9, ha]
      exact if_neg hcd.2
    refine aw_skip (hK1 _ _ ?_)
    refine aw_srd [(0,true),(1,true),(2,true),(3,true),(4,true),(5,true),(6,true),(7,true),(8,true),(9,true),(10,true),(11,false),(12,false),(13,true)] mixed rfl (by kernel_rfl) ?_  -- r10 @shape.go:182
    have h0 : (t.args.map eTyp).getD 0 [] = cTyp a := by rw [ha]; exact eTyp_eq a
    simp only [go_sem, reduceIte, Nat.reduceEqDiff, Nat.reduceAdd, Nat.reduceMul, Nat.reduceSub, Nat.reduceLeDiff, Nat.reduceLT, reduceCtorEq, h3, h4, cTyp, h0, hw1, e29, Int.toNat_zero]
    refine ⟨⟨by omega, by omega, wid_eTyp _⟩, ?_⟩
    refine goQ_by (hF (by omega) a (ht.arg (by rw [ha]; simp))) ?_
    simp only [go_sem, reduceIte, Nat.reduceEqDiff, Nat.reduceAdd, Nat.reduceMul, Nat.reduceSub, Nat.reduceLeDiff, Nat.reduceLT, reduceCtorEq, firstV, cV]
    intro b8 hb8
    have n86 : ¬ b6 = b8 := by intro e; subst e; rw [h6] at hb8; cases hb8
    refine aw_box1 hb8 fun B2 hs2 h8 => ?_
    replace h6 := hs2 _ _ h6
    replace hsB := sub_trans hsB hs2
    refine aw_sr rfl ?_  -- r11 @shape.go:183
    simp only [go_sem, reduceIte, Nat.reduceEqDiff, Nat.reduceAdd, Nat.reduceMul, Nat.reduceSub, Nat.reduceLeDiff, Nat.reduceLT, reduceCtorEq, h6, h8]
    refine aw_ret ⟨trivial, [.agg [.int .i64 8, .int .i64 0, .str [], .sl [eVal (F a).1] false .full], .bool (F a).2], ?_, ?_, sub_hset_fresh hG6 hsB⟩
    · simp only [go_sem, reduceIte, Nat.reduceEqDiff, Nat.reduceAdd, Nat.reduceMul, Nat.reduceSub, Nat.reduceLeDiff, Nat.reduceLT, reduceCtorEq, resL, resOf, hget_hset_self h6, eC, cV]
    rw [hE]
    exact Vle.tupL (.cons (Vle.aggL (.cons (Vle.refl _) (.cons (Vle.refl _) (.cons (Vle.refl _) (.cons Vle.untag .nil))))) (.cons (Vle.refl _) .nil))
  have k9 : ¬ t.kind = 9 := by simpa using h
  refine aw_sr rfl ?_  -- r12 @shape.go:184
  simp only [go_sem, reduceIte, Nat.reduceEqDiff, Nat.reduceAdd, Nat.reduceMul, Nat.reduceSub, Nat.reduceLeDiff, Nat.reduceLT, reduceCtorEq]
  refine aw_if rfl (fun h => ?_) (fun h => ?_)
  case refine_2 =>
    have k6 : ¬ t.kind = 6 := by simpa using h
    exact aw_skip ⟨rfl, hsB, h6, by unfold firstS; rw [if_neg hnk, if_neg k9, if_neg k6]⟩
  have k6 : t.kind = 6 := by simpa using h
  refine aw_sr rfl ?_  -- r13 @shape.go:185
  simp only [go_sem, reduceIte, Nat.reduceEqDiff, Nat.reduceAdd, Nat.reduceMul, Nat.reduceSub, Nat.reduceLeDiff, Nat.reduceLT, reduceCtorEq, h3, h4, cTyp, e29]
  refine goA_q (q_data p t.name hp.2.1) ?_
  simp only [go_sem, reduceIte, Nat.reduceEqDiff, Nat.reduceAdd, Nat.reduceMul, Nat.reduceSub, Nat.reduceLeDiff, Nat.reduceLT, reduceCtorEq]
  intro b10 hb10
  have hEd : firstS p d F t = (match ((dataF p t.name).getD zDat).2.2.1.find? (fun m => (gsF p (d - 1) F t m.1).isSome) with
    | none => (zVal, false)
    | some m => (.mk 5 0 m.1 ((gsF p (d - 1) F t m.1).getD []) ((gsF p (d - 1) F t m.1).getD []).isEmpty, true)) := by
    unfold firstS; rw [if_neg hnk, if_neg k9, if_pos k6]
  generalize hd : (dataF p t.name).getD zDat = dd at hEd
  refine ⟨⟨by simp [e194, scalarV], rfl⟩, ?_⟩
  have hml : dd.2.2.1.length ≤ bulk := by
    cases hdf : dataF p t.name with
    | none => rw [hdf] at hd; subst hd; simp [zDat]
    | some d0 =>
      rw [hdf] at hd
      subst hd
      exact (hp.2.2 d0 (List.mem_of_find?_eq_some hdf)).2.2.2.1
  have hml' : dd.2.2.1.length ≤ 1048576 := hml
  refine aw_box1 hb10 fun B2 hs2 h10 => ?_
  replace h3 := hs2 _ _ h3
  replace h4 := hs2 _ _ h4
  replace h6 := hs2 _ _ h6
  replace hsB := sub_trans hsB hs2
  refine aw_sr rfl ?_  -- r14 @shape.go:186
  simp only [go_sem, reduceIte, Nat.reduceEqDiff, Nat.reduceAdd, Nat.reduceMul, Nat.reduceSub, Nat.reduceLeDiff, Nat.reduceLT, reduceCtorEq, h10, e194]
  refine aw_range dd.2.2.1.length (S := Unit) (fun i _ => [(2, .int .i64 d), (3, .ptr b3 0), (4, .ptr b4 0), (6, .ptr b6 0), (65, .sl (dd.2.2.1.map eMake) dd.2.2.2 .no)]) (fun _ _ => B2) (fun i _ => ∀ k (hk : k < dd.2.2.1.length), k < i → gsF p (d - 1) F t dd.2.2.1[k].1 = none) () (by omega) ?_ (fun _ _ h => h) (fun k _ hk => absurd hk (by omega)) rfl (fun _ _ => rfl) ?_ ?_ (by decide)
  · simp only [go_sem, reduceIte, Nat.reduceEqDiff, Nat.reduceAdd, Nat.reduceMul, Nat.reduceSub, Nat.reduceLeDiff, Nat.reduceLT, reduceCtorEq, Int.natCast_zero]
  · intro i _ hi he
    generalize hm : dd.2.2.1[i] = m
    refine aw_sr rfl ?_  -- r16 @shape.go:186
    simp only [go_sem, reduceIte, Nat.reduceEqDiff, Nat.reduceAdd, Nat.reduceMul, Nat.reduceSub, Nat.reduceLeDiff, Nat.reduceLT, reduceCtorEq, getD_map hi, hm, e196]
    refine ⟨⟨by omega, by omega, wid_map (g := eMake) (fun _ => rfl) _⟩, ?_⟩
    intro b13 hb13
    refine aw_box1 hb13 fun B3 hs3 h13 => ?_
    replace h3 := hs3 _ _ h3
    replace h4 := hs3 _ _ h4
    have h6' := hs3 _ _ h6
    refine aw_sr rfl ?_  -- r17 @shape.go:187
    simp only [go_sem, reduceIte, Nat.reduceEqDiff, Nat.reduceAdd, Nat.reduceMul, Nat.reduceSub, Nat.reduceLeDiff, Nat.reduceLT, reduceCtorEq, h3, h4, h13, e29, cTyp, e196, hw1]
    refine goA_q (q_firsts p (d - 1) F t m.1 hp ht hF) ?_
    cases hg : gsF p (d - 1) F t m.1 with
    | none =>
      simp only [go_sem, reduceIte, Nat.reduceEqDiff, Nat.reduceAdd, Nat.reduceMul, Nat.reduceSub, Nat.reduceLeDiff, Nat.reduceLT, reduceCtorEq, valsV]
      refine aw_sr rfl ?_  -- r18 @shape.go:187
      simp only [go_sem, reduceIte, Nat.reduceEqDiff, Nat.reduceAdd, Nat.reduceMul, Nat.reduceSub, Nat.reduceLeDiff, Nat.reduceLT, reduceCtorEq]
      refine aw_if (b := false) rfl (fun h => by cases h) (fun h => ?_)
      refine aw_skip ⟨(), fun k hk hlt => ?_, ?_, hs3⟩
      · by_cases e : k = i
        · subst e; rw [hm]; exact hg
        · exact he k hk (by omega)
      simp only [go_sem, reduceIte, Nat.reduceEqDiff, Nat.reduceAdd, Nat.reduceMul, Nat.reduceSub, Nat.reduceLeDiff, Nat.reduceLT, reduceCtorEq]
    | some l =>
      simp only [go_sem, reduceIte, Nat.reduceEqDiff, Nat.reduceAdd, Nat.reduceMul, Nat.reduceSub, Nat.reduceLeDiff, Nat.reduceLT, reduceCtorEq, valsV]
      refine aw_sr rfl ?_  -- r18 @shape.go:187
      simp only [go_sem, reduceIte, Nat.reduceEqDiff, Nat.reduceAdd, Nat.reduceMul, Nat.reduceSub, Nat.reduceLeDiff, Nat.reduceLT, reduceCtorEq]
      refine aw_if (b := true) rfl (fun h => ?_) (fun h => by cases h)
      refine aw_sr rfl ?_  -- r19 @shape.go:188
      simp only [go_sem, reduceIte, Nat.reduceEqDiff, Nat.reduceAdd, Nat.reduceMul, Nat.reduceSub, Nat.reduceLeDiff, Nat.reduceLT, reduceCtorEq, h6', h13, e196]
      refine aw_ret ⟨trivial, [.agg [.int .i64 5, .int .i64 0, .str m.1, .sl (l.map eVal) l.isEmpty .no], .bool true], ?_, ?_, sub_hset_fresh hG6 (sub_trans hsB hs3)⟩
      · simp only [go_sem, reduceIte, Nat.reduceEqDiff, Nat.reduceAdd, Nat.reduceMul, Nat.reduceSub, Nat.reduceLeDiff, Nat.reduceLT, reduceCtorEq, resL, resOf, hget_hset_self h6']
      have hf : dd.2.2.1.find? (fun m => (gsF p (d - 1) F t m.1).isSome) = some m := by
        refine List.find?_eq_some_iff_getElem.2 ⟨by rw [hg]; rfl, i, hi, hm, fun k hk => ?_⟩
        rw [he k (by omega) hk]; rfl
      rw [hEd, hf]
      simp only [hg, Option.getD_some]
      exact Vle.refl _
  intro _ he
  refine ⟨rfl, hsB, h6, ?_⟩
  rw [hEd, List.find?_eq_none.2]
  intro m hm
  obtain ⟨k, hk, rfl⟩ := List.getElem_of_mem hm
  rw [he k hk hk]
  simp
end Go.Proofs.Ytclmcpbanaojfaa

set_option linter.unusedSimpArgs false
set_option linter.unusedVariables false
namespace Go.Proofs.Ytclmcpbanaojfaa
open Go.Proofs.YtclmcpbanaojfaaV
set_option maxHeartbeats 400000
set_option maxRecDepth 100000
theorem ScpAt.stable {G H : Heap} (h : Stable G H) : ∀ {s : Scp} {x : V}, ScpAt G s x → ScpAt H s x
  | [], _, k => k
  | (nm, ts) :: s, _, ⟨b, y, h1, h2, h3⟩ => ⟨b, y, h1, h _ _ h2 (fun _ _ e => by cases e), ScpAt.stable h h3⟩
theorem ScpAt.vars {G H : Heap} (h : ∀ b cs, hget G b = some (.vars cs) → hget H b = some (.vars cs)) : ∀ {s : Scp} {x : V}, ScpAt G s x → ScpAt H s x
  | [], _, k => k
  | (nm, ts) :: s, _, ⟨b, y, h1, h2, h3⟩ => ⟨b, y, h1, h _ _ h2, ScpAt.vars h h3⟩
def kvB (s : List UInt8) : V × V := (.str s, .bool true)
theorem mfind_yes {s : List UInt8} : ∀ {S : List (List UInt8)} {i : Nat}, s ∈ S → ∃ j, mfind (.str s) (S.map kvB) i = some (some (j, .bool true))
  | a :: S, i, h => by
    simp only [List.map_cons, kvB, mfind, keyEq]
    by_cases e : s = a
    · exact ⟨i, by simp [e]⟩
    · obtain ⟨j, hj⟩ := mfind_yes (S := S) (i := i + 1) ((List.mem_cons.1 h).resolve_left e)
      exact ⟨j, by simpa [e] using hj⟩
theorem mfind_no {s : List UInt8} : ∀ {S : List (List UInt8)} {i : Nat}, ¬ s ∈ S → mfind (.str s) (S.map kvB) i = some none
  | [], i, h => rfl
  | a :: S, i, h => by
    simp only [List.mem_cons, not_or] at h
    simp only [List.map_cons, kvB, mfind, keyEq]
    have := mfind_no (S := S) (i := i + 1) h.2
    simpa [h.1] using this
/-- The values of a maker's arguments, by the reference. -/
def gsR (F : Typ → Val × Bool) (dd : Dat) (name : List UInt8) : Option (List Val) :=
  match dd.2.2.1.find? (fun m => decide (m.1 = name)) with
  | none => none
  | some m => if m.2.1.length ≤ 6 then allF F m.2.1 else none
def firstRS (p : Prgm) (d : Int) (F : Scp → Typ → Val × Bool) (m : Typ × Scp) : Val × Bool :=
  if m.1.kind = 1 ∨ m.1.kind = 2 ∨ m.1.kind = 3 ∨ m.1.kind = 4 then (.mk (leafK m.1.kind) 0 [] [] true, true)
  else if m.1.kind = 9 then (match m.1.args with | [a] => if d < 1 then (zVal, false) else (.mk 8 0 [] [(F m.2 a).1] false, (F m.2 a).2) | _ => (zVal, false))
  else if m.1.kind = 6 then (match dataF p m.1.name with
    | none => (zVal, false)
    | some dd => if d < 1 ∨ dd.2.1.1.length ≠ m.1.args.length then (zVal, false) else match dd.2.2.1.find? (fun k => (gsR (F ((dd.2.1, (m.1.args, m.1.nl)) :: m.2)) dd k.1).isSome) with
      | none => (zVal, false)
      | some k => (.mk 5 0 k.1 ((gsR (F ((dd.2.1, (m.1.args, m.1.nl)) :: m.2)) dd k.1).getD []) ((gsR (F ((dd.2.1, (m.1.args, m.1.nl)) :: m.2)) dd k.1).getD []).isEmpty, true))
  else (zVal, false)
theorem zV_le : Vle (oneOf [V.agg [.int .i64 0, .int .i64 0, .str [], .sl [] true .full], .bool false]) (firstV (zVal, false)) :=
  Vle.tupL (.cons (Vle.aggL (.cons (Vle.refl _) (.cons (Vle.refl _) (.cons (Vle.refl _) (.cons Vle.untag .nil))))) (.cons (Vle.refl _) .nil))
theorem a_firstS (p : Prgm) (hp : o23 p.2.2.2.1) (d : Int) (hd0 : 0 ≤ d) (hd1 : d ≤ 1000) (F : Scp → Typ → Val × Bool)
    (hF : 1 ≤ d → ∀ (s : Scp) (a : Typ) (x : V) (G : Heap), OkScp s → OkTyp a → ScpAt G s x → ACall Try.prog 212 [.agg (cPrg p), .agg (cTyp a), x, .int .i64 (d - 1)] (fun r G' => r = firstV (F s a) ∧ G' = G) G)
    (s : Scp) (t : Typ) (x : V) (G : Heap) (hs : OkScp s) (ht : OkTyp t) (hx : ScpAt G s x) :
    ACall Try.prog 212 [.agg (cPrg p), .agg (cTyp t), x, .int .i64 d] (fun r G' => r = firstV (firstRS p d F (meantF s t)) ∧ G' = G) G := by
  refine ACall.weak (ACall.mono (Q := fun r G' => Vle r (firstV (firstRS p d F (meantF s t))) ∧ Sub G G') ?_ (fun r G' ⟨h1, h3⟩ => ⟨_, G, h1, h3, rfl, rfl⟩))
  have hw1 : IntKind.i64.wrap (d - 1) = d - 1 := wrap64 (by omega) (by omega)
  obtain ⟨mo1, mo2⟩ := meantF_ok hs ht
  have hpl : p.2.2.2.1.1.length ≤ 1048576 := hp.2.1
  refine acall_body (rs := [.cell 8 110, .tmp 9]) Try.func212 rfl rfl Try.ntmps212 (by kernel_rfl) (Nat.le_of_ble_eq_true rfl) ?_
  refine aw_sr rfl ?_
  simp only [go_sem, reduceIte, Nat.reduceEqDiff, Nat.reduceAdd, Nat.reduceMul, Nat.reduceSub, Nat.reduceLeDiff, Nat.reduceLT, reduceCtorEq]
  intro b4 hb4 b5 hb5 b8 hb8
  have hG5 := (fresh_cons hb5).2
  have hG8 := (fresh_cons (fresh_cons hb8).2).2
  refine aw_box3 hb4 hb5 hb8 fun B0 hs1 h4 h5 h8 n45 _ n48 _ n58 n85 => ?_
  refine aw_sr rfl ?_
  simp only [go_sem, reduceIte, Nat.reduceEqDiff, Nat.reduceAdd, Nat.reduceMul, Nat.reduceSub, Nat.reduceLeDiff, Nat.reduceLT, reduceCtorEq, h5]
  refine goA_by (a_meant s t x G _ hs1 hs hx) fun r G1 hr => ?_
  obtain ⟨⟨x', rfl, hx'⟩, rfl⟩ := hr
  generalize hm : meantF s t = m at mo1 mo2 hx'
  obtain ⟨t', s'⟩ := m
  simp only at mo1 mo2 hx' ⊢
  simp only [go_sem, reduceIte, Nat.reduceEqDiff, Nat.reduceAdd, Nat.reduceMul, Nat.reduceSub, Nat.reduceLeDiff, Nat.reduceLT, reduceCtorEq, h5]
  obtain ⟨B, hB⟩ : ∃ B, B = hset G1 b5 (AObj.vars (cTyp t')) := ⟨_, rfl⟩
  have h5' : hget B b5 = some (.vars (cTyp t')) := by rw [hB]; exact hget_hset_self h5
  have h4' : hget B b4 = some (.vars (cPrg p)) := by rw [hB, hget_hset_ne n45]; exact h4
  have h8' : hget B b8 = some (.vars [.int .i64 0, .int .i64 0, .str [], .sl [] true .full]) := by rw [hB, hget_hset_ne n85]; exact h8
  have hsB : Sub G B := by rw [hB]; exact sub_hset_fresh hG5 hs1
  have hB0 : Sub B (hset G1 b5 (AObj.vars (cTyp t'))) := by rw [hB]; exact sub_rfl
  refine AW.of_hsub hB0 ?_
  clear hB hB0 h4 h5 h8
  have h4 := h4'
  have h5 := h5'
  have h8 := h8'
  clear h4' h5' h8'
  have hxB : ScpAt B s' x' := hx'.sub hsB
  have htl : t'.args.length ≤ 1048576 := mo1.len
  generalize hE : firstRS p d F (t', s') = E
  refine aw_mid (fun f' G' => FSub [(8, .ptr b8 0)] f' ∧ Sub G G' ∧ hget G' b8 = some (.vars [.int .i64 0, .int .i64 0, .str [], .sl [] true .full]) ∧ E = (zVal, false)) ?_ ?_
  case refine_2 =>
    intro f' G' ⟨hf, hg, h8, he⟩
    refine AW.of_fsub hf ?_
    refine aw_sr rfl ?_  -- r36
    simp only [go_sem, reduceIte, Nat.reduceEqDiff, Nat.reduceAdd, Nat.reduceMul, Nat.reduceSub, Nat.reduceLeDiff, Nat.reduceLT, reduceCtorEq, h8]
    refine aw_ret ⟨trivial, [.agg [.int .i64 0, .int .i64 0, .str [], .sl [] true .full], .bool false], ?_, ?_, sub_hset_fresh hG8 hg⟩
    · simp only [go_sem, reduceIte, Nat.reduceEqDiff, Nat.reduceAdd, Nat.reduceMul, Nat.reduceSub, Nat.reduceLeDiff, Nat.reduceLT, reduceCtorEq, resL, resOf, hget_hset_self h8]
    rw [he]
    exact zV_le
  refine aw_sr rfl ?_
  simp only [go_sem, reduceIte, Nat.reduceEqDiff, Nat.reduceAdd, Nat.reduceMul, Nat.reduceSub, Nat.reduceLeDiff, Nat.reduceLT, reduceCtorEq, h5, cTyp]
  refine aw_block ?_  -- 0
  refine aw_mid (fun f' G' => ∃ c, (c = true ↔ (t'.kind = 1 ∨ t'.kind = 2 ∨ t'.kind = 3 ∨ t'.kind = 4)) ∧ FSub [(30, .bool c), (29, .int .i64 t'.kind), (2, x'), (3, .int .i64 d), (4, .ptr b4 0), (5, .ptr b5 0), (8, .ptr b8 0)] f' ∧ G' = B) ?_ ?_
  · -- 4 ways
    refine aw_sr rfl ?_
    simp only [go_sem, reduceIte, Nat.reduceEqDiff, Nat.reduceAdd, Nat.reduceMul, Nat.reduceSub, Nat.reduceLeDiff, Nat.reduceLT, reduceCtorEq]
    refine aw_if rfl (fun h => ?_) (fun h => ?_)
    · exact aw_skip ⟨decide (t'.kind = 1), by have : t'.kind = 1 := by simpa using h
                                              simp [this], ⟨rfl, rfl, rfl, rfl, rfl, rfl, rfl⟩, rfl⟩
    have k1 : ¬ t'.kind = 1 := by simpa using h
    refine aw_sr rfl ?_
    simp only [go_sem, reduceIte, Nat.reduceEqDiff, Nat.reduceAdd, Nat.reduceMul, Nat.reduceSub, Nat.reduceLeDiff, Nat.reduceLT, reduceCtorEq]
    refine aw_if rfl (fun h => ?_) (fun h => ?_)
    · exact aw_skip ⟨decide (t'.kind = 2), by have : t'.kind = 2 := by simpa using h
                                              simp [this], ⟨rfl, rfl, rfl, rfl, rfl, rfl, rfl⟩, rfl⟩
    have k2 : ¬ t'.kind = 2 := by simpa using h
    refine aw_sr rfl ?_
    simp only [go_sem, reduceIte, Nat.reduceEqDiff, Nat.reduceAdd, Nat.reduceMul, Nat.reduceSub, Nat.reduceLeDiff, Nat.reduceLT, reduceCtorEq]
    refine aw_if rfl (fun h => ?_) (fun h => ?_)
    · exact aw_skip ⟨decide (t'.kind = 3), by have : t'.kind = 3 := by simpa using h
                                              simp [this], ⟨rfl, rfl, rfl, rfl, rfl, rfl, rfl⟩, rfl⟩
    have k3 : ¬ t'.kind = 3 := by simpa using h
    refine aw_rg rfl ?_
    simp only [go_sem, reduceIte, Nat.reduceEqDiff, Nat.reduceAdd, Nat.reduceMul, Nat.reduceSub, Nat.reduceLeDiff, Nat.reduceLT, reduceCtorEq]
    exact ⟨decide (t'.kind = 4), by simp [k1, k2, k3], ⟨rfl, rfl, rfl, rfl, rfl, rfl, rfl⟩, rfl⟩
  intro f' G' ⟨c, hc, hf, hg⟩
  rw [hg]
  refine AW.of_fsub hf ?_
  refine aw_if rfl (fun h => ?_) (fun h => ?_)
  · have hks := hc.1 h
    have hE1 : E = (.mk (leafK t'.kind) 0 [] [] true, true) := by rw [← hE]; unfold firstRS; rw [if_pos hks]
    have hl : ([[V.int .i64 0], [V.int .i64 2], [V.int .i64 3], [V.int .i64 4], [V.int .i64 1]] : List (List V)).getD t'.kind.toNat [] = [.int .i64 (leafK t'.kind)] ∧ 0 ≤ t'.kind ∧ t'.kind < 5 := by
      rcases hks with q | q | q | q <;> rw [q] <;> exact ⟨rfl, by decide, by decide⟩
    obtain ⟨hw1, hw4, hw5⟩ := hl
    refine aw_sr rfl ?_  -- r7
    simp only [go_sem, reduceIte, Nat.reduceEqDiff, Nat.reduceAdd, Nat.reduceMul, Nat.reduceSub, Nat.reduceLeDiff, Nat.reduceLT, reduceCtorEq, h5, h8, cTyp, hw1]
    refine ⟨⟨hw4, by omega, by simp [wid]⟩, ?_⟩
    refine aw_ret ⟨trivial, [.agg [.int .i64 (leafK t'.kind), .int .i64 0, .str [], .sl [] true .full], .bool true], ?_, ?_, sub_hset_fresh hG8 hsB⟩
    · simp only [go_sem, reduceIte, Nat.reduceEqDiff, Nat.reduceAdd, Nat.reduceMul, Nat.reduceSub, Nat.reduceLeDiff, Nat.reduceLT, reduceCtorEq, resL, resOf, hget_hset_self h8]
    rw [hE1]
    exact Vle.tupL (.cons (Vle.aggL (.cons (Vle.refl _) (.cons (Vle.refl _) (.cons (Vle.refl _) (.cons Vle.untag .nil))))) (.cons (Vle.refl _) .nil))
  have hnk : ¬ (t'.kind = 1 ∨ t'.kind = 2 ∨ t'.kind = 3 ∨ t'.kind = 4) := fun q => by rw [hc.2 q] at h; cases h
  refine aw_sr rfl ?_
  simp only [go_sem, reduceIte, Nat.reduceEqDiff, Nat.reduceAdd, Nat.reduceMul, Nat.reduceSub, Nat.reduceLeDiff, Nat.reduceLT, reduceCtorEq]
  refine aw_if rfl (fun h => ?_) (fun h => ?_)
  · have k9 : t'.kind = 9 := by simpa using h
    refine aw_seq fun K1 hK1 => ?_
    refine aw_sr rfl ?_
    simp only [go_sem, reduceIte, Nat.reduceEqDiff, Nat.reduceAdd, Nat.reduceMul, Nat.reduceSub, Nat.reduceLeDiff, Nat.reduceLT, reduceCtorEq, h5, cTyp]
    refine aw_if rfl (fun h => ?_) (fun h => ?_)
    · have hE1 : E = (zVal, false) := by
        rw [← hE]
        unfold firstRS
        rw [if_neg hnk, if_pos k9]
        simp only
        split
        · rename_i a ha
          rw [ha] at h
          rw [if_pos (by simpa using h)]
        · rfl
      refine aw_sr rfl ?_
      simp only [go_sem, reduceIte, Nat.reduceEqDiff, Nat.reduceAdd, Nat.reduceMul, Nat.reduceSub, Nat.reduceLeDiff, Nat.reduceLT, reduceCtorEq, h8]
      refine aw_ret ⟨trivial, [.agg [.int .i64 0, .int .i64 0, .str [], .sl [] true .full], .bool false], ?_, ?_, sub_hset_fresh hG8 hsB⟩
      · simp only [go_sem, reduceIte, Nat.reduceEqDiff, Nat.reduceAdd, Nat.reduceMul, Nat.reduceSub, Nat.reduceLeDiff, Nat.reduceLT, reduceCtorEq, resL, resOf, hget_hset_self h8]
      rw [hE1]
      exact zV_le
    have hcd : t'.args.length = 1 ∧ 1 ≤ d := by
      simp at h; omega
    obtain ⟨a, ha⟩ : ∃ a, t'.args = [a] := by
      match hh : t'.args with
      | [a] => exact ⟨a, rfl⟩
      | [] => rw [hh] at hcd; simp at hcd
      | _ :: _ :: _ => rw [hh] at hcd; simp at hcd
    have hE1 : E = (.mk 8 0 [] [(F s' a).1] false, (F s' a).2) := by
      rw [← hE]
      unfold firstRS
      rw [if_neg hnk, if_pos k9]
      simp only [ha]
      rw [if_neg (by omega)]
    refine aw_skip (hK1 _ _ ?_)
    refine aw_srd [(0,true),(1,true),(2,true),(3,true),(4,true),(5,true),(6,true),(7,true),(8,true),(9,true),(10,true),(11,true),(12,false),(13,false),(14,true)] mixed rfl (by kernel_rfl) ?_
    have h0 : (t'.args.map eTyp).getD 0 [] = cTyp a := by rw [ha]; exact eTyp_eq a
    simp only [go_sem, reduceIte, Nat.reduceEqDiff, Nat.reduceAdd, Nat.reduceMul, Nat.reduceSub, Nat.reduceLeDiff, Nat.reduceLT, reduceCtorEq, h4, h5, cTyp, h0, hw1, e29, Int.toNat_zero]
    refine ⟨⟨by omega, by omega, wid_eTyp _⟩, ?_⟩
    refine goQ_on (fun G' hst => hF hcd.2 s' a x' G' mo2 (mo1.arg (by rw [ha]; simp)) (hxB.stable hst)) ?_
    simp only [go_sem, reduceIte, Nat.reduceEqDiff, Nat.reduceAdd, Nat.reduceMul, Nat.reduceSub, Nat.reduceLeDiff, Nat.reduceLT, reduceCtorEq, firstV, cV]
    intro b10 hb10
    refine aw_box1 hb10 fun B2 hs2 h10 => ?_
    replace h8 := hs2 _ _ h8
    replace hsB := sub_trans hsB hs2
    refine aw_sr rfl ?_
    simp only [go_sem, reduceIte, Nat.reduceEqDiff, Nat.reduceAdd, Nat.reduceMul, Nat.reduceSub, Nat.reduceLeDiff, Nat.reduceLT, reduceCtorEq, h8, h10]
    refine aw_ret ⟨trivial, [.agg [.int .i64 8, .int .i64 0, .str [], .sl [eVal (F s' a).1] false .full], .bool (F s' a).2], ?_, ?_, sub_hset_fresh hG8 hsB⟩
    · simp only [go_sem, reduceIte, Nat.reduceEqDiff, Nat.reduceAdd, Nat.reduceMul, Nat.reduceSub, Nat.reduceLeDiff, Nat.reduceLT, reduceCtorEq, resL, resOf, hget_hset_self h8, eC, cV]
    rw [hE1]
    exact Vle.tupL (.cons (Vle.aggL (.cons (Vle.refl _) (.cons (Vle.refl _) (.cons (Vle.refl _) (.cons Vle.untag .nil))))) (.cons (Vle.refl _) .nil))
  have k9 : ¬ t'.kind = 9 := by simpa using h
  refine aw_sr rfl ?_
  simp only [go_sem, reduceIte, Nat.reduceEqDiff, Nat.reduceAdd, Nat.reduceMul, Nat.reduceSub, Nat.reduceLeDiff, Nat.reduceLT, reduceCtorEq]
  refine aw_if rfl (fun h => ?_) (fun h => ?_)
  case refine_2 =>
    have k6 : ¬ t'.kind = 6 := by simpa using h
    exact aw_skip ⟨rfl, hsB, h8, by rw [← hE]; unfold firstRS; rw [if_neg hnk, if_neg k9, if_neg k6]⟩
  have k6 : t'.kind = 6 := by simpa using h
  refine aw_sr rfl ?_  -- r14
  simp only [go_sem, reduceIte, Nat.reduceEqDiff, Nat.reduceAdd, Nat.reduceMul, Nat.reduceSub, Nat.reduceLeDiff, Nat.reduceLT, reduceCtorEq, h4, h5, cTyp, e29]
  refine goA_q (q_dataOf p t'.name hp.2.1) ?_
  simp only [go_sem, reduceIte, Nat.reduceEqDiff, Nat.reduceAdd, Nat.reduceMul, Nat.reduceSub, Nat.reduceLeDiff, Nat.reduceLT, reduceCtorEq]
  refine aw_seq fun K2 hK2 => ?_
  refine aw_srd [(0,true),(1,true),(2,true),(3,true),(4,true),(5,true),(6,true),(7,true),(8,true),(9,true),(10,true),(11,true),(12,true),(13,true),(14,true),(15,true),(16,true),(17,true),(18,true)] mixed rfl (by kernel_rfl) ?_  -- r15
  have hE0 := hE
  unfold firstRS at hE0
  rw [if_neg hnk, if_neg k9, if_pos k6] at hE0
  simp only at hE0
  rcases dataF_ix p t'.name with ⟨e1, e2⟩ | ⟨i0, hi0, e1, e2⟩
  · rw [e1] at hE0
    rw [e2]
    have hneg : decide ((ixI none : Int) < 0) = true := rfl
    have hcs : (p.2.2.2.1.1.map eData).getD (ixI none).toNat [] = [] ∨ ∃ d0, (p.2.2.2.1.1.map eData).getD (ixI none).toNat [] = eData d0 := by
      cases p.2.2.2.1.1 with
      | nil => exact .inl rfl
      | cons d0 ds => exact .inr ⟨d0, rfl⟩
    rcases hcs with hcs | ⟨d0, hcs⟩
    all_goals
      simp only [go_sem, reduceIte, Nat.reduceEqDiff, Nat.reduceAdd, Nat.reduceMul, Nat.reduceSub, Nat.reduceLeDiff, Nat.reduceLT, reduceCtorEq, h4, h5, cTyp, e29, hneg, hcs, e194, not_true_eq_false, false_implies, true_and, Bool.true_or]
      refine aw_if (b := true) rfl (fun h => ?_) (fun h => by cases h)
      refine aw_sr rfl ?_
      simp only [go_sem, reduceIte, Nat.reduceEqDiff, Nat.reduceAdd, Nat.reduceMul, Nat.reduceSub, Nat.reduceLeDiff, Nat.reduceLT, reduceCtorEq, h8]
      refine aw_ret ⟨trivial, [.agg [.int .i64 0, .int .i64 0, .str [], .sl [] true .full], .bool false], ?_, ?_, sub_hset_fresh hG8 hsB⟩
      · simp only [go_sem, reduceIte, Nat.reduceEqDiff, Nat.reduceAdd, Nat.reduceMul, Nat.reduceSub, Nat.reduceLeDiff, Nat.reduceLT, reduceCtorEq, resL, resOf, hget_hset_self h8]
      rw [← hE0]
      exact zV_le
  rw [e2]
  generalize hd : p.2.2.2.1.1[i0] = dd at e1
  rw [e1] at hE0
  simp only at hE0
  have hdm : dd ∈ p.2.2.2.1.1 := by rw [← hd]; exact List.getElem_mem hi0
  have hdo := hp.2.2 dd hdm
  have hml : dd.2.2.1.length ≤ 1048576 := hdo.2.2.2.1
  have hneg : decide ((i0 : Int) < 0) = false := decide_eq_false (by omega)
  simp only [go_sem, reduceIte, Nat.reduceEqDiff, Nat.reduceAdd, Nat.reduceMul, Nat.reduceSub, Nat.reduceLeDiff, Nat.reduceLT, reduceCtorEq, h4, h5, cTyp, e29, ixI, hneg, getD_map hi0, hd, e194]
  refine ⟨fun _ => ⟨by omega, by omega, wid_map (g := eData) (fun _ => rfl) _⟩, ?_⟩
  refine aw_if rfl (fun h => ?_) (fun h => ?_)
  · have hc : d < 1 ∨ dd.2.1.1.length ≠ t'.args.length := by
      simp at h; omega
    rw [if_pos hc] at hE0
    refine aw_sr rfl ?_
    simp only [go_sem, reduceIte, Nat.reduceEqDiff, Nat.reduceAdd, Nat.reduceMul, Nat.reduceSub, Nat.reduceLeDiff, Nat.reduceLT, reduceCtorEq, h8]
    refine aw_ret ⟨trivial, [.agg [.int .i64 0, .int .i64 0, .str [], .sl [] true .full], .bool false], ?_, ?_, sub_hset_fresh hG8 hsB⟩
    · simp only [go_sem, reduceIte, Nat.reduceEqDiff, Nat.reduceAdd, Nat.reduceMul, Nat.reduceSub, Nat.reduceLeDiff, Nat.reduceLT, reduceCtorEq, resL, resOf, hget_hset_self h8]
    rw [← hE0]
    exact zV_le
  have hc : 1 ≤ d ∧ dd.2.1.1.length = t'.args.length := by
    simp at h; omega
  rw [if_neg (by omega)] at hE0
  generalize hsc : F ((dd.2.1, (t'.args, t'.nl)) :: s') = F2 at hE0
  refine aw_skip (hK2 _ _ ?_)
  refine aw_sr rfl ?_  -- r17
  simp only [go_sem, reduceIte, Nat.reduceEqDiff, Nat.reduceAdd, Nat.reduceMul, Nat.reduceSub, Nat.reduceLeDiff, Nat.reduceLT, reduceCtorEq]
  intro bm hbm
  refine aw_box1 hbm fun B2 hs2 hm => ?_
  replace h4 := hs2 _ _ h4
  replace h5 := hs2 _ _ h5
  have n8 := ne_fresh h8 hbm
  have hGm := sub_none hsB hbm
  replace h8 := hs2 _ _ h8
  replace hsB := sub_trans hsB hs2
  replace hxB := hxB.sub hs2
  refine aw_sr rfl ?_  -- r18
  simp only [go_sem, reduceIte, Nat.reduceEqDiff, Nat.reduceAdd, Nat.reduceMul, Nat.reduceSub, Nat.reduceLeDiff, Nat.reduceLT, reduceCtorEq, h4, e29, getD_map hi0, hd, e194]
  refine ⟨⟨by omega, by omega, wid_map (g := eData) (fun _ => rfl) _⟩, ?_⟩
  refine aw_range dd.2.2.1.length (S := Heap × List (List UInt8)) (fun i _ => [(2, x'), (3, .int .i64 d), (4, .ptr b4 0), (5, .ptr b5 0), (8, .ptr b8 0), (12, .int .i64 i0), (13, .map bm), (100, .sl (dd.2.2.1.map eMake) dd.2.2.2 .no)]) (fun _ st => st.1)
    (fun i st => Sub G st.1 ∧ hget st.1 b4 = some (.vars (cPrg p)) ∧ hget st.1 b5 = some (.vars (cTyp t')) ∧ hget st.1 b8 = some (.vars [.int .i64 0, .int .i64 0, .str [], .sl [] true .full]) ∧ hget st.1 bm = some (.map (st.2.map kvB)) ∧ ScpAt st.1 s' x' ∧
      (∀ s, s ∈ st.2 ↔ ∃ k, ∃ hk : k < dd.2.2.1.length, k < i ∧ dd.2.2.1[k].1 = s) ∧ ∀ k (hk : k < dd.2.2.1.length), k < i → gsR F2 dd dd.2.2.1[k].1 = none)
    (B2, []) (by omega) ?_ (fun _ _ h => h) ⟨hsB, h4, h5, h8, hm, hxB, fun s => ⟨fun h => (by cases h), fun ⟨k, _, h, _⟩ => absurd h (by omega)⟩, fun k _ hk => absurd hk (by omega)⟩ rfl (fun _ _ => rfl) ?_ ?_ (by decide)
  · simp only [go_sem, reduceIte, Nat.reduceEqDiff, Nat.reduceAdd, Nat.reduceMul, Nat.reduceSub, Nat.reduceLeDiff, Nat.reduceLT, reduceCtorEq, Int.natCast_zero]
  · intro i ⟨H, L⟩ hi ⟨hs, h4, h5, h8, hm, hx, hL, he⟩
    simp only at hs h4 h5 h8 hm hx hL he ⊢
    generalize hmi : dd.2.2.1[i] = m
    have hmm : m ∈ dd.2.2.1 := by rw [← hmi]; exact List.getElem_mem hi
    have hmo := (hdo.2.2.2.2 m hmm).2
    have hmal : m.2.1.length ≤ 1048576 := hmo.len
    refine aw_sr rfl ?_  -- r20
    simp only [go_sem, reduceIte, Nat.reduceEqDiff, Nat.reduceAdd, Nat.reduceMul, Nat.reduceSub, Nat.reduceLeDiff, Nat.reduceLT, reduceCtorEq, getD_map hi, hmi, e196]
    refine ⟨⟨by omega, by omega, wid_map (g := eMake) (fun _ => rfl) _⟩, ?_⟩
    intro b15 hb15
    refine aw_box1 hb15 fun B3 hs3 h15 => ?_
    replace h4 := hs3 _ _ h4
    replace h5 := hs3 _ _ h5
    replace h8 := hs3 _ _ h8
    have n15 := ne_fresh hm hb15
    replace hm := hs3 _ _ hm
    replace hx := hx.sub hs3
    have hs' := sub_trans hs hs3
    have hkk : (IntKind.i64 == IntKind.i64) = true := rfl
    refine aw_seq fun K3 hK3 => ?_
    refine aw_sr rfl ?_  -- r21
    by_cases hmem : m.1 ∈ L
    · obtain ⟨j, hj⟩ := mfind_yes (i := 0) hmem
      simp only [go_sem, reduceIte, Nat.reduceEqDiff, Nat.reduceAdd, Nat.reduceMul, Nat.reduceSub, Nat.reduceLeDiff, Nat.reduceLT, reduceCtorEq, h15, hm, e196, hj]
      refine aw_if (b := true) rfl (fun h => ?_) (fun h => by cases h)
      refine aw_exit ?_  -- 2
      refine ⟨(B3, L), ⟨hs', h4, h5, h8, hm, hx, fun s => ⟨fun h => ?_, fun ⟨k, hk, hlt, e⟩ => ?_⟩, fun k hk hlt => ?_⟩, ?_, sub_rfl⟩
      · obtain ⟨k, hk, hlt, e⟩ := (hL s).1 h
        exact ⟨k, hk, by omega, e⟩
      · by_cases ek : k = i
        · subst ek; rw [hmi] at e; rw [← e]; exact hmem
        · exact (hL s).2 ⟨k, hk, by omega, e⟩
      · by_cases ek : k = i
        · subst ek
          obtain ⟨k2, hk2, hlt2, e⟩ := (hL m.1).1 hmem
          rw [hmi, ← e]
          exact he k2 hk2 hlt2
        · exact he k hk (by omega)
      · simp only [go_sem, reduceIte, Nat.reduceEqDiff, Nat.reduceAdd, Nat.reduceMul, Nat.reduceSub, Nat.reduceLeDiff, Nat.reduceLT, reduceCtorEq]
    have hj := mfind_no (i := 0) hmem
    simp only [go_sem, reduceIte, Nat.reduceEqDiff, Nat.reduceAdd, Nat.reduceMul, Nat.reduceSub, Nat.reduceLeDiff, Nat.reduceLT, reduceCtorEq, h15, hm, e196, hj]
    refine aw_if (b := false) rfl (fun h => by cases h) (fun h => ?_)
    refine aw_skip (hK3 _ _ ?_)
    have hfind : dd.2.2.1.find? (fun k => decide (k.1 = m.1)) = some m := by
      refine List.find?_eq_some_iff_getElem.2 ⟨by simp, i, hi, hmi, fun k hk => ?_⟩
      have : ¬ dd.2.2.1[k].1 = m.1 := fun e => hmem ((hL m.1).2 ⟨k, by omega, hk, e⟩)
      simp [this]
    have hgs : gsR F2 dd m.1 = if m.2.1.length ≤ 6 then allF F2 m.2.1 else none := by unfold gsR; rw [hfind]
    refine aw_sr rfl ?_  -- r22
    simp only [go_sem, reduceIte, Nat.reduceEqDiff, Nat.reduceAdd, Nat.reduceMul, Nat.reduceSub, Nat.reduceLeDiff, Nat.reduceLT, reduceCtorEq, h15, hm, e196, hj, mput]
    obtain ⟨C, hC⟩ : ∃ C, C = hset B3 bm (AObj.map (L.map kvB ++ [(V.str m.1, V.bool true)])) := ⟨_, rfl⟩
    have hC0 : Sub C (hset B3 bm (AObj.map (L.map kvB ++ [(V.str m.1, V.bool true)]))) := by rw [hC]; exact sub_rfl
    have hLm : L.map kvB ++ [(V.str m.1, V.bool true)] = (L ++ [m.1]).map kvB := by rw [List.map_append]; rfl
    have c4 : hget C b4 = some (.vars (cPrg p)) := by rw [hC]; exact hset_keep h4 fun e => by subst e; rw [h4] at hm; cases hm
    have c5 : hget C b5 = some (.vars (cTyp t')) := by rw [hC]; exact hset_keep h5 fun e => by subst e; rw [h5] at hm; cases hm
    have c8 : hget C b8 = some (.vars [.int .i64 0, .int .i64 0, .str [], .sl [] true .full]) := by rw [hC]; exact hset_keep h8 fun e => by subst e; rw [h8] at hm; cases hm
    have c15 : hget C b15 = some (.vars (eMake m)) := by rw [hC]; exact hset_keep h15 fun e => by subst e; rw [h15] at hm; cases hm
    have cm : hget C bm = some (.map ((L ++ [m.1]).map kvB)) := by rw [hC, hget_hset_self hm, hLm]
    have hsC : Sub G C := by rw [hC]; exact sub_hset_fresh hGm hs'
    have hxC : ScpAt C s' x' := by
      rw [hC]
      exact hx.vars fun b cs hb => hset_keep hb fun e => by subst e; rw [hb] at hm; cases hm
    refine AW.of_hsub hC0 ?_
    clear hC hC0
    refine aw_sr rfl ?_  -- r23
    simp only [go_sem, reduceIte, Nat.reduceEqDiff, Nat.reduceAdd, Nat.reduceMul, Nat.reduceSub, Nat.reduceLeDiff, Nat.reduceLT, reduceCtorEq, c15, e196]
    refine aw_sr rfl ?_  -- r24
    simp only [go_sem, reduceIte, Nat.reduceEqDiff, Nat.reduceAdd, Nat.reduceMul, Nat.reduceSub, Nat.reduceLeDiff, Nat.reduceLT, reduceCtorEq, c15, e196]
    intro b17 hb17
    have hG17 := sub_none hsC hb17
    have m4 := ne_fresh c4 hb17
    have m5 := ne_fresh c5 hb17
    have m8 := ne_fresh c8 hb17
    have mm := ne_fresh cm hb17
    have m15 := ne_fresh c15 hb17
    refine aw_box1 hb17 fun D hs4 d17 => ?_
    have d4 := hs4 _ _ c4
    have d5 := hs4 _ _ c5
    have d8 := hs4 _ _ c8
    have dm := hs4 _ _ cm
    have d15 := hs4 _ _ c15
    have dx := hxC.sub hs4
    have hsD := sub_trans hsC hs4
    refine aw_mid (fun f' G' => ∃ okv, FSub [(16, .bool okv), (17, .ptr b17 0), (2, x'), (3, .int .i64 d), (4, .ptr b4 0), (5, .ptr b5 0), (8, .ptr b8 0), (12, .int .i64 i0), (13, .map bm), (100, .sl (dd.2.2.1.map eMake) dd.2.2.2 .no), (101, .int .i64 dd.2.2.1.length), (102, .int .i64 i)] f' ∧
      Sub G G' ∧ hget G' b4 = some (.vars (cPrg p)) ∧ hget G' b5 = some (.vars (cTyp t')) ∧ hget G' b8 = some (.vars [.int .i64 0, .int .i64 0, .str [], .sl [] true .full]) ∧ hget G' bm = some (.map ((L ++ [m.1]).map kvB)) ∧ ScpAt G' s' x' ∧
      (okv = true → ∃ l tg, gsR F2 dd m.1 = some l ∧ hget G' b17 = some (.vars [.int .i64 5, .int .i64 0, .str m.1, .sl (l.map eVal) l.isEmpty tg])) ∧ (okv = false → gsR F2 dd m.1 = none)) ?_ ?_
    · refine aw_sr rfl ?_  -- r25
      simp only [go_sem, reduceIte, Nat.reduceEqDiff, Nat.reduceAdd, Nat.reduceMul, Nat.reduceSub, Nat.reduceLeDiff, Nat.reduceLT, reduceCtorEq, d15, e196]
      refine aw_range m.2.1.length (S := Bool × Bool × Tag × Heap) (fun _ st => [(16, .bool st.1), (17, .ptr b17 0), (2, x'), (3, .int .i64 d), (4, .ptr b4 0), (5, .ptr b5 0), (8, .ptr b8 0), (12, .int .i64 i0), (13, .map bm), (100, .sl (dd.2.2.1.map eMake) dd.2.2.2 .no), (101, .int .i64 dd.2.2.1.length), (102, .int .i64 i), (121, .sl (m.2.1.map eTyp) m.2.2 .no)]) (fun _ st => st.2.2.2)
        (fun j st => Rm G st.2.2.2 4 st.2.2.1 ∧ Sub G st.2.2.2 ∧ hget st.2.2.2 b4 = some (.vars (cPrg p)) ∧ hget st.2.2.2 b5 = some (.vars (cTyp t')) ∧ hget st.2.2.2 b8 = some (.vars [.int .i64 0, .int .i64 0, .str [], .sl [] true .full]) ∧ hget st.2.2.2 bm = some (.map ((L ++ [m.1]).map kvB)) ∧ ScpAt st.2.2.2 s' x' ∧
          hget st.2.2.2 b17 = some (.vars [.int .i64 5, .int .i64 0, .str m.1, .sl (((m.2.1.take j).map fun a => (F2 a).1).map eVal) st.2.1 st.2.2.1]) ∧ st.2.1 = (m.2.1.take j).isEmpty ∧ st.1 = (decide (m.2.1.length ≤ 6) && (m.2.1.take j).all fun a => (F2 a).2))
        (decide (m.2.1.length ≤ 6), true, .full, D) (by omega) ?_ (fun _ _ h => h) ⟨Rm.start _ _ _, hsD, d4, d5, d8, dm, dx, by simpa using d17, by simp, by simp⟩ rfl (fun _ _ => rfl) ?_ ?_ (by decide)
      · simp only [go_sem, reduceIte, Nat.reduceEqDiff, Nat.reduceAdd, Nat.reduceMul, Nat.reduceSub, Nat.reduceLeDiff, Nat.reduceLT, reduceCtorEq, Int.natCast_zero, show decide ((m.2.1.length : Int) ≤ 6) = decide (m.2.1.length ≤ 6) from decide_eq_decide.2 (by omega)]
      · intro j ⟨okv, nl2, t2, H⟩ hj ⟨hr, hs, h4, h5, h8, hm, hx, h17, hnl, hok⟩
        simp only at hr hs h4 h5 h8 hm hx h17 hnl hok ⊢
        have ham : m.2.1[j] ∈ m.2.1 := List.getElem_mem hj
        refine aw_sr rfl ?_  -- r27
        simp only [go_sem, reduceIte, Nat.reduceEqDiff, Nat.reduceAdd, Nat.reduceMul, Nat.reduceSub, Nat.reduceLeDiff, Nat.reduceLT, reduceCtorEq, getD_map hj, eTyp_eq]
        refine ⟨⟨by omega, by omega, wid_eTyp _⟩, ?_⟩
        intro b19 hb19
        refine aw_box1 hb19 fun B5 hs5 h19 => ?_
        replace h4 := hs5 _ _ h4
        replace h5 := hs5 _ _ h5
        replace h8 := hs5 _ _ h8
        replace hm := hs5 _ _ hm
        replace h17 := hs5 _ _ h17
        replace hx := hx.sub hs5
        replace hr := hr.sub hs5
        replace hs := sub_trans hs hs5
        refine aw_seq fun K5 hK5 => ?_
        refine aw_sr rfl ?_  -- r28
        simp only [go_sem, reduceIte, Nat.reduceEqDiff, Nat.reduceAdd, Nat.reduceMul, Nat.reduceSub, Nat.reduceLeDiff, Nat.reduceLT, reduceCtorEq]
        refine aw_if rfl (fun h => ?_) (fun h => ?_)
        · have hof : okv = false := by simpa using h
          refine aw_exit ?_  -- 3
          refine ⟨okv, ?_, hs, h4, h5, h8, hm, hx, fun q => (by rw [hof] at q; cases q), fun _ => ?_⟩
          · simp only [go_sem, reduceIte, Nat.reduceEqDiff, Nat.reduceAdd, Nat.reduceMul, Nat.reduceSub, Nat.reduceLeDiff, Nat.reduceLT, reduceCtorEq]
          rw [hgs]
          split
          · rename_i h6
            rw [decide_eq_true h6, Bool.true_and, hof] at hok
            unfold allF
            rw [if_neg]
            intro q
            rw [List.all_eq_true] at q
            have hq : (m.2.1.take j).all (fun a => (F2 a).2) = true := List.all_eq_true.2 fun a ha => q a (List.mem_of_mem_take ha)
            rw [hq] at hok; cases hok
          · rfl
        have hot : okv = true := by simpa using h
        rw [hot] at hok
        have hok2 := hok.symm
        rw [Bool.and_eq_true, decide_eq_true_eq] at hok2
        refine aw_skip (hK5 _ _ ?_)
        have hFq := fun (G' : Heap) (b : Nat) (h : hget G' b = some (.vars [.sl (dd.2.1.1.map eNm) dd.2.1.2 .no, .sl (t'.args.map eTyp) t'.nl .no, x'])) (hx : ScpAt G' s' x') =>
          hF hc.1 ((dd.2.1, (t'.args, t'.nl)) :: s') m.2.1[j] (.ptr b 0) G' (by
            intro f hf
            rcases List.mem_cons.1 hf with rfl | hf
            · exact ⟨hdo.2.1.2.1, htl, fun t ht => mo1.arg ht⟩
            · exact mo2 f hf) (hmo.mem ham).1 ⟨b, _, rfl, h, hx⟩
        rw [hsc] at hFq
        have happ : ((m.2.1.take j).map fun a => (F2 a).1).map eVal ++ [eVal (F2 m.2.1[j]).1] = ((m.2.1.take (j + 1)).map fun a => (F2 a).1).map eVal := by
          rw [List.take_succ_eq_append_getElem hj]; simp only [List.map_append, List.map_cons, List.map_nil]
        rw [eC] at happ
        have hall : (F2 m.2.1[j]).2 = (decide (m.2.1.length ≤ 6) && (m.2.1.take (j + 1)).all fun a => (F2 a).2) := by
          rw [List.take_succ_eq_append_getElem hj, List.all_append, hok2.2, decide_eq_true hok2.1]; simp
        refine aw_srf [(0,true),(1,true),(2,true),(3,true),(4,true),(5,true),(6,true),(7,true),(8,true),(9,true),(10,true),(11,true),(13,true),(14,true)] 12 19 [(15,true),(16,true),(17,true),(18,true),(19,false),(20,false),(21,true)] [(12,false),(15,true),(16,true),(17,true),(18,true),(20,false),(21,true)] mixed rfl (by kernel_rfl) ?_  -- r29
        rcases hx.form with hxf | ⟨bx, hxf⟩
        all_goals
          subst hxf
          simp only [go_sem, reduceIte, Nat.reduceEqDiff, Nat.reduceAdd, Nat.reduceMul, Nat.reduceSub, Nat.reduceLeDiff, Nat.reduceLT, reduceCtorEq, h4, h5, h19, cTyp, hw1, e29, getD_map hi0, hd, e194]
          refine ⟨⟨by omega, by omega, wid_map (g := eData) (fun _ => rfl) _⟩, ?_, ?_⟩
          · intro b142 hb142
            refine goQ_on (fun G' hst => hFq G' b142 (hst _ _ (hget_self _ _ _) (fun _ _ e => by cases e)) ((hx.sub (sub_tail hb142)).stable hst)) ?_
            simp only [go_sem, reduceIte, Nat.reduceEqDiff, Nat.reduceAdd, Nat.reduceMul, Nat.reduceSub, Nat.reduceLeDiff, Nat.reduceLT, reduceCtorEq, firstV, cV]
            intro b20 hb20
            refine aw_box2 hb142 hb20 fun E1 hs6 h142 h20 _ _ => ?_
            replace h4 := hs6 _ _ h4
            replace h5 := hs6 _ _ h5
            replace h8 := hs6 _ _ h8
            replace hm := hs6 _ _ hm
            replace h17 := hs6 _ _ h17
            have hx2 := hx.sub hs6
            replace hr := hr.sub hs6
            replace hs := sub_trans hs hs6
            refine aw_sr rfl ?_  -- r30
            simp only [go_sem, reduceIte, Nat.reduceEqDiff, Nat.reduceAdd, Nat.reduceMul, Nat.reduceSub, Nat.reduceLeDiff, Nat.reduceLT, reduceCtorEq]
            refine aw_rg rfl ?_  -- r31
            simp only [go_sem, reduceIte, Nat.reduceEqDiff, Nat.reduceAdd, Nat.reduceMul, Nat.reduceSub, Nat.reduceLeDiff, Nat.reduceLT, reduceCtorEq, h17, h20]
            refine goP_rm hr hs ?_ fun t' H' hr' hs' hg => ?_
            · exact ⟨rfl, rfl, by decide, wid_Val _, wid_one rfl, sca_one rfl, by simp; omega, by simp; omega⟩
            simp only [go_sem, reduceIte, Nat.reduceEqDiff, Nat.reduceAdd, Nat.reduceMul, Nat.reduceSub, Nat.reduceLeDiff, Nat.reduceLT, reduceCtorEq, hg.vars h17, Bool.and_false, happ]
            refine ⟨((F2 m.2.1[j]).2, false, t', hset H' b17 (.vars [.int .i64 5, .int .i64 0, .str m.1, .sl (((m.2.1.take (j + 1)).map fun a => (F2 a).1).map eVal) false t'])), ⟨hr'.hset (hg.vars h17) (fun _ _ e => by cases e), sub_hset_fresh hG17 hs', hset_keep (hg.vars h4) m4, hset_keep (hg.vars h5) m5, hset_keep (hg.vars h8) m8, hset_keep (hg.map hm) mm, hx'.sub (sub_hset_fresh hG17 hs'), hget_hset_self (hg.vars h17), (isEmpty_take_add hj).symm, hall⟩, ?_, sub_rfl⟩
            simp only [go_sem, reduceIte, Nat.reduceEqDiff, Nat.reduceAdd, Nat.reduceMul, Nat.reduceSub, Nat.reduceLeDiff, Nat.reduceLT, reduceCtorEq]
          · intro b20 hb20 b142 hb142
            have nn := (fresh_cons hb142).1
            simp only [go_sem, reduceIte, Nat.reduceEqDiff, Nat.reduceAdd, Nat.reduceMul, Nat.reduceSub, Nat.reduceLeDiff, Nat.reduceLT, reduceCtorEq, firstV, cV]
            refine goQ_on (fun G' hst => hFq G' b142 (hst _ _ (hget_self _ _ _) (fun _ _ e => by cases e)) ((hx.sub (sub_trans (sub_tail hb20) (sub_tail hb142))).stable hst)) ?_
            simp only [go_sem, reduceIte, Nat.reduceEqDiff, Nat.reduceAdd, Nat.reduceMul, Nat.reduceSub, Nat.reduceLeDiff, Nat.reduceLT, reduceCtorEq, firstV, cV, hset, nn, hget_cons, (fun e => nn e.symm : ¬ b20 = b142)]
            refine aw_box2 hb20 (by rw [hget_cons_ne (fun e => nn e.symm)]; exact (fresh_cons hb142).2) fun E1 hs6 h20 h142 _ _ => ?_
            replace h4 := hs6 _ _ h4
            replace h5 := hs6 _ _ h5
            replace h8 := hs6 _ _ h8
            replace hm := hs6 _ _ hm
            replace h17 := hs6 _ _ h17
            have hx2 := hx.sub hs6
            replace hr := hr.sub hs6
            replace hs := sub_trans hs hs6
            refine aw_sr rfl ?_  -- r30
            simp only [go_sem, reduceIte, Nat.reduceEqDiff, Nat.reduceAdd, Nat.reduceMul, Nat.reduceSub, Nat.reduceLeDiff, Nat.reduceLT, reduceCtorEq]
            refine aw_rg rfl ?_  -- r31
            simp only [go_sem, reduceIte, Nat.reduceEqDiff, Nat.reduceAdd, Nat.reduceMul, Nat.reduceSub, Nat.reduceLeDiff, Nat.reduceLT, reduceCtorEq, h17, h20]
            refine goP_rm hr hs ?_ fun t' H' hr' hs' hg => ?_
            · exact ⟨rfl, rfl, by decide, wid_Val _, wid_one rfl, sca_one rfl, by simp; omega, by simp; omega⟩
            simp only [go_sem, reduceIte, Nat.reduceEqDiff, Nat.reduceAdd, Nat.reduceMul, Nat.reduceSub, Nat.reduceLeDiff, Nat.reduceLT, reduceCtorEq, hg.vars h17, Bool.and_false, happ]
            refine ⟨((F2 m.2.1[j]).2, false, t', hset H' b17 (.vars [.int .i64 5, .int .i64 0, .str m.1, .sl (((m.2.1.take (j + 1)).map fun a => (F2 a).1).map eVal) false t'])), ⟨hr'.hset (hg.vars h17) (fun _ _ e => by cases e), sub_hset_fresh hG17 hs', hset_keep (hg.vars h4) m4, hset_keep (hg.vars h5) m5, hset_keep (hg.vars h8) m8, hset_keep (hg.map hm) mm, hx'.sub (sub_hset_fresh hG17 hs'), hget_hset_self (hg.vars h17), (isEmpty_take_add hj).symm, hall⟩, ?_, sub_rfl⟩
            simp only [go_sem, reduceIte, Nat.reduceEqDiff, Nat.reduceAdd, Nat.reduceMul, Nat.reduceSub, Nat.reduceLeDiff, Nat.reduceLT, reduceCtorEq]
      · intro ⟨okv, nl2, t2, H⟩ ⟨hr, hs, h4, h5, h8, hm, hx, h17, hnl, hok⟩
        simp only at hr hs h4 h5 h8 hm hx h17 hnl hok ⊢
        rw [List.take_length] at h17 hnl hok
        refine ⟨okv, ?_, hs, h4, h5, h8, hm, hx, fun q => ?_, fun q => ?_⟩
        · simp only [go_sem, reduceIte, Nat.reduceEqDiff, Nat.reduceAdd, Nat.reduceMul, Nat.reduceSub, Nat.reduceLeDiff, Nat.reduceLT, reduceCtorEq]
        · rw [q] at hok
          have hok := hok.symm
          rw [Bool.and_eq_true, decide_eq_true_eq] at hok
          refine ⟨m.2.1.map fun a => (F2 a).1, t2, ?_, ?_⟩
          · rw [hgs, if_pos hok.1]; unfold allF; rw [if_pos hok.2]
          · rw [h17, hnl, List.isEmpty_map]
        · rw [hgs]
          split
          · rename_i h6
            rw [decide_eq_true h6, Bool.true_and, q] at hok
            unfold allF
            rw [if_neg (by rw [← hok]; simp)]
          · rfl
    intro f' G' ⟨okv, hf, hs, h4, h5, h8, hm, hx, hy, hn⟩
    refine AW.of_fsub hf ?_
    refine aw_sr rfl ?_  -- r33
    simp only [go_sem, reduceIte, Nat.reduceEqDiff, Nat.reduceAdd, Nat.reduceMul, Nat.reduceSub, Nat.reduceLeDiff, Nat.reduceLT, reduceCtorEq]
    refine aw_if rfl (fun h => ?_) (fun h => ?_)
    · obtain ⟨l, tg, hl, h17⟩ := hy h
      refine aw_sr rfl ?_  -- r34
      simp only [go_sem, reduceIte, Nat.reduceEqDiff, Nat.reduceAdd, Nat.reduceMul, Nat.reduceSub, Nat.reduceLeDiff, Nat.reduceLT, reduceCtorEq, h8, h17]
      refine aw_ret ⟨trivial, [.agg [.int .i64 5, .int .i64 0, .str m.1, .sl (l.map eVal) l.isEmpty tg], .bool true], ?_, ?_, sub_hset_fresh hG8 hs⟩
      · simp only [go_sem, reduceIte, Nat.reduceEqDiff, Nat.reduceAdd, Nat.reduceMul, Nat.reduceSub, Nat.reduceLeDiff, Nat.reduceLT, reduceCtorEq, resL, resOf, hget_hset_self h8]
      have hf : dd.2.2.1.find? (fun k => (gsR F2 dd k.1).isSome) = some m := by
        refine List.find?_eq_some_iff_getElem.2 ⟨by rw [hl]; rfl, i, hi, hmi, fun k hk => ?_⟩
        rw [he k (by omega) hk]; rfl
      rw [hf] at hE0
      simp only [hl, Option.getD_some] at hE0
      rw [← hE0]
      exact Vle.tupL (.cons (Vle.aggL (.cons (Vle.refl _) (.cons (Vle.refl _) (.cons (Vle.refl _) (.cons Vle.untag .nil))))) (.cons (Vle.refl _) .nil))
    have hgn := hn h
    refine aw_skip ⟨(G', L ++ [m.1]), ⟨hs, h4, h5, h8, hm, hx, fun s => ⟨fun h => ?_, fun ⟨k, hk, hlt, e⟩ => ?_⟩, fun k hk hlt => ?_⟩, ?_, sub_rfl⟩
    · rcases List.mem_append.1 h with h | h
      · obtain ⟨k, hk, hlt, e⟩ := (hL s).1 h
        exact ⟨k, hk, by omega, e⟩
      · exact ⟨i, hi, by omega, by rw [hmi]; exact (List.mem_singleton.1 h).symm⟩
    · by_cases ek : k = i
      · subst ek; rw [hmi] at e; rw [← e]; simp
      · exact List.mem_append_left _ ((hL s).2 ⟨k, hk, by omega, e⟩)
    · by_cases ek : k = i
      · subst ek; rw [hmi]; exact hgn
      · exact he k hk (by omega)
    · simp only [go_sem, reduceIte, Nat.reduceEqDiff, Nat.reduceAdd, Nat.reduceMul, Nat.reduceSub, Nat.reduceLeDiff, Nat.reduceLT, reduceCtorEq]
  · intro ⟨H, L⟩ ⟨hs, h4, h5, h8, hm, hx, hL, he⟩
    simp only at hs h8 he ⊢
    refine ⟨rfl, hs, h8, ?_⟩
    rw [← hE0, List.find?_eq_none.2]
    intro m hm
    obtain ⟨k, hk, rfl⟩ := List.getElem_of_mem hm
    rw [he k hk hk]
    simp
end Go.Proofs.Ytclmcpbanaojfaa
