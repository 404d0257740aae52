/- Part 5 of a proof laid in parts; each part's own comment says what it proves and under which conditions. -/
import Derived.Test.YtclmcpbanaojfaaSq4
import Derived.Test.YtclmcpbanaojfaaSq3
import Derived.Test.YtclmcpbanaojfaaRows
import Derived.WalkKit
import Derived.ProofKit
import Derived.OpenShut
import Derived.JoinedCond
/- Types of two programs that are the same: Same, till nothing turns any more. -/
set_option linter.unusedSimpArgs false
set_option linter.unusedVariables false
namespace Go.Proofs.Ytclmcpbanaojfaa
open Go.Proofs.YtclmcpbanaojfaaV
set_option maxHeartbeats 4000000
set_option maxRecDepth 100000
namespace sm
/-- The boxes of the arguments. -/
structure SF (p q : Prgm) (a b : Typ) (b4 b5 b6 b7 : Nat) (G0 H : Heap) : Prop where
  h4 : hget H b4 = some (.vars (cPrg p))
  h5 : hget H b5 = some (.vars (cPrg q))
  h6 : hget H b6 = some (.vars (cTyp a))
  h7 : hget H b7 = some (.vars (cTyp b))
  sub : Sub G0 H
theorem SF.up {p q : Prgm} {a b : Typ} {b4 b5 b6 b7 : Nat} {G0 H H' : Heap} (h : SF p q a b b4 b5 b6 b7 G0 H) (hs : Sub H H') : SF p q a b b4 b5 b6 b7 G0 H' :=
  ⟨hs _ _ h.h4, hs _ _ h.h5, hs _ _ h.h6, hs _ _ h.h7, sub_trans h.sub hs⟩
theorem SF.fr {p q : Prgm} {a b : Typ} {b4 b5 b6 b7 c : Nat} {G0 H H' : Heap} {o : AObj} (h : SF p q a b b4 b5 b6 b7 G0 H) (hF : Fr c H H') (hc : hget H c = some o) (ho : ∀ cs, o ≠ .vars cs) (hg : hget G0 c = none) : SF p q a b b4 b5 b6 b7 G0 H' := by
  have ne : ∀ {z cs}, hget H z = some (.vars cs) → ¬ z = c := fun {z cs} hz e => by rw [e, hc] at hz; exact ho cs (Option.some.inj hz)
  refine ⟨hF _ _ (ne h.h4) h.h4, hF _ _ (ne h.h5) h.h5, hF _ _ (ne h.h6) h.h6, hF _ _ (ne h.h7) h.h7, fun z o' hz => hF z o' (fun e => ?_) (h.sub _ _ hz)⟩
  rw [e, hg] at hz; cases hz
theorem fr_hset {c : Nat} {H : Heap} {x : AObj} : Fr c H (hset H c x) := Fr.hset
theorem fr_iter {c i : Nat} {H : Heap} {x y : AObj} (hi : hget H i = none) : Fr c H ((i, y) :: hset H c x) := fun z o hn hz => by
  rw [hget_cons_ne (fun e => by rw [← e, hi] at hz; cases hz)]
  exact hset_keep hz hn
theorem mrange {H G1 : Heap} {c i : Nat} {kvs : List (V × V)} {td : List Nat} {o : Option Nat} (h : hget H c = some (.map kvs)) (hi : hget H i = none) (e : ((i, AObj.miter c) :: hset H c (.mapr kvs i td o)) = G1) : hget G1 i = some (.miter c) ∧ hget G1 c = some (.mapr kvs i td o) ∧ Fr c H G1 := by
  subst e
  refine ⟨hget_self _ _ _, ?_, fr_iter hi⟩
  rw [hget_cons_ne (fun e => by rw [e, h] at hi; cases hi)]
  exact hget_hset_self h
/-- What the names are that turned out not to be alike. -/
def NoOk (p q : Prgm) (U : List N) (NO : KV) : Prop := ∀ e ∈ NO, e.2 = true ∧ big p q e.1 = false ∧ e.1 ∈ U
theorem put_mem {n : N} {b : Bool} {e : N × Bool} : ∀ {l : KV}, e ∈ putK l n b → e = (n, b) ∨ e ∈ l
  | [], h => by simp [putK] at h; exact .inl h
  | a :: l, h => by
    simp only [putK] at h
    by_cases h1 : a.1 = n
    · rw [if_pos h1] at h
      rcases List.mem_cons.1 h with h | h
      · exact .inl h
      · exact .inr (List.mem_cons_of_mem _ h)
    · rw [if_neg h1] at h
      rcases List.mem_cons.1 h with h | h
      · exact .inr (by rw [h]; simp)
      · rcases put_mem h with h | h
        · exact .inl h
        · exact .inr (List.mem_cons_of_mem _ h)
theorem NoOk.put {p q : Prgm} {U : List N} {NO : KV} (h : NoOk p q U NO) {n : N} (h1 : big p q n = false) (h2 : n ∈ U) : NoOk p q U (putK NO n true) := fun e he => by
  rcases put_mem he with rfl | he
  · exact ⟨rfl, h1, h2⟩
  · exact h e he
theorem NoOk.tr {p q : Prgm} {U : List N} {NO : KV} (h : NoOk p q U NO) (n : N) : tr NO n = (look NO n).isSome := by
  cases hk : sm.look NO n with
  | none => simp [sm.tr, hk]
  | some v =>
    have := (h _ (look_mem hk)).1
    simp only at this
    rw [sm.tr, hk, this]; rfl
/-- What is between two runs. -/
structure S0 where
  NO : KV
  H : Heap
structure S1 where
  K : KV
  todo : List Nat
  cur : Option Nat
  H : Heap
structure S2 where
  NO : KV
  more : Bool
  todo : List Nat
  cur : Option Nat
  H : Heap
end sm
open sm
theorem q_SameS {p q : Prgm} (hp : o23 p.2.2.2.1) (hq : o23 q.2.2.2.1) {a b : Typ} (oa : OkTyp a) : Quiet Try.prog 13 [.agg (cPrg p), .agg (cPrg q), .agg (cTyp a), .agg (cTyp b)] (.bool (sameF (big p q) [] [] a b)) := by
  have hU1 : ∀ s d, dataF p s = some d → ∀ mk ∈ d.2.2.1, ∀ n ∈ tnms mk.2.1, n ∈ uniN p a := fun s d hd mk hm => uni_d hd hm
  have hU2 := uni_a p a
  generalize uniN p a = U at hU1 hU2
  refine Quiet.weak fun G => ?_
  refine acall_body (rs := [.tmp 8]) Try.func13 rfl rfl Try.ntmps13 (by kernel_rfl) (Nat.le_of_ble_eq_true rfl) ?_
  refine aw_sr rfl ?_  -- r0 @shape.go:64
  simp only [go_sem, reduceIte, Nat.reduceEqDiff, Nat.reduceAdd, Nat.reduceMul, Nat.reduceSub, Nat.reduceLeDiff, Nat.reduceLT, reduceCtorEq]
  intro b4 hb4 b5 hb5 b6 hb6 b7 hb7
  refine aw_box4 hb4 hb5 hb6 hb7 fun B1 hs1 h4 h5 h6 h7 => ?_
  have hSF1 : SF p q a b b4 b5 b6 b7 G B1 := ⟨h4, h5, h6, h7, hs1⟩
  refine aw_sr rfl ?_  -- r1 @shape.go:66
  simp only [go_sem, reduceIte, Nat.reduceEqDiff, Nat.reduceAdd, Nat.reduceMul, Nat.reduceSub, Nat.reduceLeDiff, Nat.reduceLT, reduceCtorEq]
  intro b16 hb16
  have n16 := sub_none hs1 hb16
  refine aw_box1 hb16 fun B2 hs2 h16 => ?_
  replace hSF1 := hSF1.up hs2
  clear h4 h5 h6 h7 hs1 hs2 hb4 hb5 hb6 hb7 hb16
  refine aw_block ?_  -- 0
  refine aw_lph (S := {s : S0 // SF p q a b b4 b5 b6 b7 G s.H ∧ hget s.H b16 = some (.map (s.NO.map kvB)) ∧ NoOk p q U s.NO}) (fun _ => [(4, .ptr b4 0), (5, .ptr b5 0), (6, .ptr b6 0), (7, .ptr b7 0), (9, .map b16)]) (fun s => s.1.H) (fun s => left U s.1.NO) ⟨⟨[], B2⟩, hSF1, h16, fun e he => by cases he⟩ ?_ (fun _ _ h => h) ?_
  · simp only [go_sem, reduceIte, Nat.reduceEqDiff, Nat.reduceAdd, Nat.reduceMul, Nat.reduceSub, Nat.reduceLeDiff, Nat.reduceLT, reduceCtorEq]
  clear hSF1 h16
  clear B2
  intro ⟨⟨NO, H⟩, hSF, h16, hNO⟩
  simp only at hSF h16 hNO ⊢
  have h4 := hSF.h4
  have h5 := hSF.h5
  simp only [e29] at h4 h5
  refine aw_block ?_  -- 1
  refine aw_sr rfl ?_  -- r2 @shape.go:68
  simp only [go_sem, reduceIte, Nat.reduceEqDiff, Nat.reduceAdd, Nat.reduceMul, Nat.reduceSub, Nat.reduceLeDiff, Nat.reduceLT, reduceCtorEq, h4, h5]
  intro b19 hb19 b21 hb21
  have n19 := sub_none hSF.sub hb19
  refine aw_box2 hb19 hb21 fun B3 hs3 h19 h21 _ _ => ?_
  replace hSF := hSF.up hs3
  have n1619 : ¬ b16 = b19 := ne_fresh h16 hb19
  replace h16 := hs3 _ _ h16
  clear h4 h5 hs3 hb19 hb21
  have hw : hget B3 b21 = some (.vars (twoV p q b19)) := h21
  clear h21
  refine aw_seq fun K1 hK1 => ?_
  refine aw_sr rfl ?_  -- r3 @shape.go:69
  simp only [go_sem, reduceIte, Nat.reduceEqDiff, Nat.reduceAdd, Nat.reduceMul, Nat.reduceSub, Nat.reduceLeDiff, Nat.reduceLT, reduceCtorEq, h16]
  intro i1 hi1
  try rw [List.length_map]
  generalize hG1 : ((i1, AObj.miter b16) :: hset B3 b16 _) = B4
  obtain ⟨hi1', hr1, hF1⟩ := mrange h16 hi1 hG1
  clear hG1
  have n1621 : ¬ b21 = b16 := fun e => by rw [e, h16] at hw; cases hw
  have ni1 := sub_none hSF.sub hi1
  replace hSF := hSF.fr hF1 h16 (fun _ e => by cases e) n16
  replace hw := hF1 _ _ n1621 hw
  replace h19 := hF1 _ _ (fun e => n1619 e.symm) h19
  have n121 : ¬ i1 = b21 := fun e => by rw [e, hw] at hi1'; cases hi1'
  have n119 : ¬ i1 = b19 := fun e => by rw [e, h19] at hi1'; cases hi1'
  have n116 : ¬ i1 = b16 := fun e => by rw [e, hr1] at hi1'; cases hi1'
  clear hF1 hi1 h16
  refine aw_block ?_  -- 2
  refine aw_lph (S := {s : S1 // SF p q a b b4 b5 b6 b7 G s.H ∧ hget s.H b21 = some (.vars (twoV p q b19)) ∧ hget s.H b19 = some (.map (s.K.map kvB)) ∧ hget s.H i1 = some (.miter b16) ∧ hget s.H b16 = some (.mapr (NO.map kvB) i1 s.todo s.cur) ∧ (∀ e ∈ s.K, e.2 = false ∧ sm.look NO e.1 ≠ none) ∧ (s.K.map (·.1)).Nodup ∧ ∀ j (h : j < NO.length), j ∉ s.todo → sm.look s.K NO[j].1 = some false}) (fun _ => [(4, .ptr b4 0), (5, .ptr b5 0), (6, .ptr b6 0), (7, .ptr b7 0), (9, .map b16), (10, .ptr b21 0), (23, .ptr i1 0)]) (fun s => s.1.H) (fun s => s.1.todo.length) ⟨⟨[], List.range NO.length, none, B4⟩, hSF, hw, h19, hi1', hr1, fun e he => (by cases he), List.nodup_nil, fun j hj hn => absurd (List.mem_range.2 hj) hn⟩ ?_ (fun _ _ h => h) ?_
  · simp only [go_sem, reduceIte, Nat.reduceEqDiff, Nat.reduceAdd, Nat.reduceMul, Nat.reduceSub, Nat.reduceLeDiff, Nat.reduceLT, reduceCtorEq]
  clear hSF hw h19 hi1' hr1
  clear B3 B4
  intro ⟨⟨K, todo, cur, H⟩, hSF, hw, h19, hi1, hr1, hq1, hq2, hq3⟩
  simp only at hSF hw h19 hi1 hr1 hq1 hq2 hq3 ⊢
  refine aw_sr rfl ?_  -- r4 @shape.go:69
  simp only [go_sem, reduceIte, Nat.reduceEqDiff, Nat.reduceAdd, Nat.reduceMul, Nat.reduceSub, Nat.reduceLeDiff, Nat.reduceLT, reduceCtorEq, hi1, hr1]
  refine goNm_by (fun htd => ?_) (fun j hj hlt => ?_)
  · simp only [go_sem, reduceIte, Nat.reduceEqDiff, Nat.reduceAdd, Nat.reduceMul, Nat.reduceSub, Nat.reduceLeDiff, Nat.reduceLT, reduceCtorEq]
    refine aw_seq fun K2 hK2 => ?_
    refine aw_if rfl (fun h => by cases h) (fun h => ?_)
    refine aw_exit ?_  -- 2
    subst htd
    have hK0 : ∀ n v, sm.look K n = some v → v = false := fun n v hv => (hq1 _ (look_mem hv)).1
    have hK0n : ∀ n, sm.look NO n ≠ none → sm.look K n = some false := fun n hn => by
      cases hk : sm.look NO n with
      | none => exact absurd hk hn
      | some v =>
        obtain ⟨j, hj, e⟩ := List.getElem_of_mem (look_mem hk)
        have := hq3 j hj (by simp)
        rw [e] at this; exact this
    have hInv : Inv p q K := fun n hn => by
      have h1 := (hq1 _ (look_mem hn)).2
      cases hk : sm.look NO n with
      | none => exact absurd hk h1
      | some v => exact (hNO _ (look_mem hk)).2.1
    refine hK1 _ _ ?_
    refine AW.unr hr1 ?_
    have hF2 : Fr b16 H (hset H b16 (.map (NO.map kvB))) := Fr.hset
    have h16 := hget_hset_self (y := AObj.map (NO.map kvB)) hr1
    have hSF2 := hSF.fr hF2 hr1 (fun _ e => by cases e) n16
    have hAt : At p q b21 b19 (hset H b16 (.map (NO.map kvB))) K := ⟨hF2 _ _ n1621 hw, hF2 _ _ (fun e => n1619 e.symm) h19⟩
    generalize hset H b16 (.map (NO.map kvB)) = H2 at hF2 h16 hSF2 hAt
    clear hSF hw h19 hi1 hr1 hF2
    clear H
    have h6 := hSF2.h6
    have h7 := hSF2.h7
    refine aw_sr rfl ?_  -- r7 @shape.go:72
    simp only [go_sem, reduceIte, Nat.reduceEqDiff, Nat.reduceAdd, Nat.reduceMul, Nat.reduceSub, Nat.reduceLeDiff, Nat.reduceLT, reduceCtorEq, h6, h7]
    refine goA_by (same_all hp hq hU1 (left U K) a.sz a b (Nat.le_refl _) oa hU2 K ([], true) ([], true) .full .full H2 (Nat.le_refl _) (by decide) (by decide) hAt) fun v G5 hv => ?_
    obtain ⟨r, K', rfl, hA5, hF5, hS5⟩ := hv
    replace h16 := hF5 _ _ n1619 h16
    have hSF5 := hSF2.fr hF5 hAt.m (fun _ e => by cases e) n19
    have hnd := hS5.nd hq2
    have hI5 := hS5.inv hInv
    clear hSF2 hF5 hAt h6 h7
    simp only [go_sem, reduceIte, Nat.reduceEqDiff, Nat.reduceAdd, Nat.reduceMul, Nat.reduceSub, Nat.reduceLeDiff, Nat.reduceLT, reduceCtorEq]
    refine aw_sr rfl ?_  -- r8 @shape.go:73
    simp only [go_sem, reduceIte, Nat.reduceEqDiff, Nat.reduceAdd, Nat.reduceMul, Nat.reduceSub, Nat.reduceLeDiff, Nat.reduceLT, reduceCtorEq]
    refine aw_seq fun K3 hK3 => ?_
    have hw5 := hA5.w
    have h19 := hA5.m
    simp only [twoV, e29, List.cons_append, List.nil_append] at hw5
    refine aw_sr rfl ?_  -- r9 @shape.go:74
    simp only [go_sem, reduceIte, Nat.reduceEqDiff, Nat.reduceAdd, Nat.reduceMul, Nat.reduceSub, Nat.reduceLeDiff, Nat.reduceLT, reduceCtorEq, hw5, h19]
    intro i2 hi2
    try rw [List.length_map]
    generalize hG2 : ((i2, AObj.miter b19) :: hset G5 b19 _) = G6
    obtain ⟨hi2', hr2, hF6⟩ := mrange h19 hi2 hG2
    clear hG2
    replace h16 := hF6 _ _ n1619 h16
    replace hSF5 := hSF5.fr hF6 h19 (fun _ e => by cases e) n19
    clear hw5 h19 hA5 hi2 hF6
    refine aw_block ?_  -- 4
    refine aw_lph (S := {s : S2 // SF p q a b b4 b5 b6 b7 G s.H ∧ hget s.H i2 = some (.miter b19) ∧ hget s.H b19 = some (.mapr (K'.map kvB) i2 s.todo s.cur) ∧ hget s.H b16 = some (.map (s.NO.map kvB)) ∧ NoOk p q U s.NO ∧ left U s.NO ≤ left U NO ∧ (s.more = true → left U s.NO < left U NO) ∧ (s.more = false → s.NO = NO ∧ ∀ j (h : j < K'.length), j ∉ s.todo → K'[j].2 = false → sm.look NO K'[j].1 ≠ none)}) (fun s => [(4, .ptr b4 0), (5, .ptr b5 0), (6, .ptr b6 0), (7, .ptr b7 0), (9, .map b16), (12, .bool r), (13, .bool s.1.more), (41, .ptr i2 0)]) (fun s => s.1.H) (fun s => s.1.todo.length) ⟨⟨NO, false, List.range K'.length, none, G6⟩, hSF5, hi2', hr2, h16, hNO, Nat.le_refl _, fun e => (by cases e), fun _ => ⟨rfl, fun j hj hn => absurd (List.mem_range.2 hj) hn⟩⟩ ?_ (fun _ _ h => h) ?_
    · simp only [go_sem, reduceIte, Nat.reduceEqDiff, Nat.reduceAdd, Nat.reduceMul, Nat.reduceSub, Nat.reduceLeDiff, Nat.reduceLT, reduceCtorEq]
    clear hSF5 hi2' hr2 h16
    clear G5 G6 H2
    intro ⟨⟨NN, more, todo, cur2, H⟩, hSF, hi2, hr2, h16, hNN, hl1, hl2, hl3⟩
    simp only at hSF hi2 hr2 h16 hNN hl1 hl2 hl3 ⊢
    refine aw_sr rfl ?_  -- r10 @shape.go:74
    simp only [go_sem, reduceIte, Nat.reduceEqDiff, Nat.reduceAdd, Nat.reduceMul, Nat.reduceSub, Nat.reduceLeDiff, Nat.reduceLT, reduceCtorEq, hi2, hr2]
    refine goNm_by (fun htd => ?_) (fun j hj hlt => ?_)
    · simp only [go_sem, reduceIte, Nat.reduceEqDiff, Nat.reduceAdd, Nat.reduceMul, Nat.reduceSub, Nat.reduceLeDiff, Nat.reduceLT, reduceCtorEq]
      refine aw_seq fun K4 hK4 => ?_
      refine aw_if rfl (fun h => by cases h) (fun h => ?_)
      refine aw_exit ?_  -- 4
      subst htd
      refine hK3 _ _ ?_
      refine aw_sr rfl ?_  -- r14 @shape.go:79
      simp only [go_sem, reduceIte, Nat.reduceEqDiff, Nat.reduceAdd, Nat.reduceMul, Nat.reduceSub, Nat.reduceLeDiff, Nat.reduceLT, reduceCtorEq]
      cases more with
      | false =>
        refine aw_if rfl (fun h => ?_) (fun h => by cases h)
        refine aw_sr rfl ?_  -- r15 @shape.go:80
        simp only [go_sem, reduceIte, Nat.reduceEqDiff, Nat.reduceAdd, Nat.reduceMul, Nat.reduceSub, Nat.reduceLeDiff, Nat.reduceLT, reduceCtorEq]
        obtain ⟨_, hl4⟩ := hl3 rfl
        have hans := hS5.all hInv hK0 (fun S T h => same_mono h) (fun n hn => by
          obtain ⟨j, hj, e⟩ := List.getElem_of_mem (look_mem hn)
          refine hK0n n ?_
          have := hl4 j hj (by simp) (by rw [e])
          rw [e] at this; exact this)
        refine aw_ret ⟨trivial, _, rfl, ?_, hSF.sub⟩
        rw [hans]; exact Vle.refl _
      | true =>
        refine aw_if rfl (fun h => by cases h) (fun h => ?_)
        refine aw_skip ⟨⟨⟨NN, H⟩, hSF, h16, hNN⟩, hl2 rfl, ?_, sub_rfl⟩
        simp only [go_sem, reduceIte, Nat.reduceEqDiff, Nat.reduceAdd, Nat.reduceMul, Nat.reduceSub, Nat.reduceLeDiff, Nat.reduceLT, reduceCtorEq]
    · have hj' : j < K'.length := by simpa using hlt
      simp only [go_sem, reduceIte, Nat.reduceEqDiff, Nat.reduceAdd, Nat.reduceMul, Nat.reduceSub, Nat.reduceLeDiff, Nat.reduceLT, reduceCtorEq, List.getElem_map]
      refine aw_seq fun K4 hK4 => ?_
      refine aw_if rfl (fun h => ?_) (fun h => by cases h)
      refine aw_skip (hK4 _ _ ?_)
      have hF7 : Fr b19 H (hset H b19 (.mapr (K'.map kvB) i2 (todo.erase j) (some j))) := Fr.hset
      have hr7 := hget_hset_self (y := AObj.mapr (K'.map kvB) i2 (todo.erase j) (some j)) hr2
      have n219 : ¬ i2 = b19 := fun e => by rw [e, hr2] at hi2; cases hi2
      replace hSF := hSF.fr hF7 hr2 (fun _ e => by cases e) n19
      replace hi2 := hF7 _ _ n219 hi2
      replace h16 := hF7 _ _ n1619 h16
      generalize hset H b19 (.mapr (K'.map kvB) i2 (todo.erase j) (some j)) = H7 at hF7 hr7 hSF hi2 h16
      clear hF7 hr2
      have hgj : (K'.map kvB)[j]? = some (.str K'[j].1, .bool K'[j].2) := by rw [List.getElem?_map, List.getElem?_eq_getElem hj']; rfl
      have hlen : (todo.erase j).length < todo.length := by
        have := List.length_pos_of_mem hj
        rw [List.length_erase_of_mem hj]; omega
      have hout : ∀ i, i ∉ todo.erase j → i = j ∨ i ∉ todo := fun i hi => by
        by_cases e : i = j
        · exact .inl e
        · exact .inr fun h => hi ((List.mem_erase_of_ne e).2 h)
      have hmem : K'[j] ∈ K' := List.getElem_mem hj'
      have hlkj := look_of hnd hmem
      have hlk := look_B K'[j].1 NN 0
      rw [hNN.tr] at hlk
      refine aw_block ?_  -- 5
      refine aw_sr rfl ?_  -- r11 @shape.go:74
      simp only [go_sem, reduceIte, Nat.reduceEqDiff, Nat.reduceAdd, Nat.reduceMul, Nat.reduceSub, Nat.reduceLeDiff, Nat.reduceLT, reduceCtorEq, hi2, hr7, hgj]
      refine aw_sr rfl ?_  -- r12 @shape.go:75
      cases hv : K'[j].2 with
      | true =>
        simp only [go_sem, reduceIte, Nat.reduceEqDiff, Nat.reduceAdd, Nat.reduceMul, Nat.reduceSub, Nat.reduceLeDiff, Nat.reduceLT, reduceCtorEq, hv, h16, true_imp_iff, false_imp_iff, Bool.false_eq_true, Bool.not_true]
        repeat' first
          | (refine sm.goG_off fun v => ?_
             simp only [go_sem, reduceIte, Nat.reduceEqDiff, Nat.reduceAdd, Nat.reduceMul, Nat.reduceSub, Nat.reduceLeDiff, Nat.reduceLT, reduceCtorEq, hv, h16, true_imp_iff, false_imp_iff, Bool.false_eq_true, Bool.not_true])
        refine aw_if rfl (fun h => by cases h) (fun h => ?_)
        refine aw_skip ⟨⟨⟨NN, more, todo.erase j, some j, H7⟩, hSF, hi2, hr7, h16, hNN, hl1, hl2, fun hm => ⟨(hl3 hm).1, fun i hi hn hv2 => ?_⟩⟩, hlen, ?_, sub_rfl⟩
        · rcases hout i hn with rfl | hn
          · rw [hv] at hv2; cases hv2
          · exact (hl3 hm).2 i hi hn hv2
        · simp only [go_sem, reduceIte, Nat.reduceEqDiff, Nat.reduceAdd, Nat.reduceMul, Nat.reduceSub, Nat.reduceLeDiff, Nat.reduceLT, reduceCtorEq]
      | false =>
        simp only [go_sem, reduceIte, Nat.reduceEqDiff, Nat.reduceAdd, Nat.reduceMul, Nat.reduceSub, Nat.reduceLeDiff, Nat.reduceLT, reduceCtorEq, hv, h16, ↓hlk, true_imp_iff, Bool.not_false]
        cases hs : (sm.look NN K'[j].1).isSome with
        | true =>
          refine aw_if rfl (fun h => by cases h) (fun h => ?_)
          refine aw_skip ⟨⟨⟨NN, more, todo.erase j, some j, H7⟩, hSF, hi2, hr7, h16, hNN, hl1, hl2, fun hm => ⟨(hl3 hm).1, fun i hi hn hv2 => ?_⟩⟩, hlen, ?_, sub_rfl⟩
          · rcases hout i hn with rfl | hn
            · rw [(hl3 hm).1] at hs
              intro e; rw [e] at hs; cases hs
            · exact (hl3 hm).2 i hi hn hv2
          · simp only [go_sem, reduceIte, Nat.reduceEqDiff, Nat.reduceAdd, Nat.reduceMul, Nat.reduceSub, Nat.reduceLeDiff, Nat.reduceLT, reduceCtorEq]
        | false =>
          have hnone : sm.look NN K'[j].1 = none := by
            cases hk : sm.look NN K'[j].1 with
            | none => rfl
            | some v => rw [hk] at hs; cases hs
          have hbig : big p q K'[j].1 = false := hI5 _ (by rw [hlkj, hv])
          have hUj : K'[j].1 ∈ U := by
            cases hk : sm.look K K'[j].1 with
            | none => exact hS5.keys _ hk (by rw [hlkj]; simp)
            | some v =>
              have := (hq1 _ (look_mem hk)).2
              cases hk2 : sm.look NO K'[j].1 with
              | none => exact absurd hk2 this
              | some v2 => exact (hNO _ (look_mem hk2)).2.2
          have hlt2 := left_put (b := true) hUj hnone
          obtain ⟨r8, hf8, hp8⟩ := put_B K'[j].1 true NN
          refine aw_if rfl (fun h => ?_) (fun h => by cases h)
          refine aw_rg rfl ?_  -- r13 @shape.go:76
          simp only [go_sem, reduceIte, Nat.reduceEqDiff, Nat.reduceAdd, Nat.reduceMul, Nat.reduceSub, Nat.reduceLeDiff, Nat.reduceLT, reduceCtorEq, h16, hf8, hp8]
          have hF8 : Fr b16 H7 (hset H7 b16 (.map ((putK NN K'[j].1 true).map kvB))) := Fr.hset
          have n216 : ¬ i2 = b16 := fun e => by rw [e, h16] at hi2; cases hi2
          refine ⟨⟨⟨putK NN K'[j].1 true, true, todo.erase j, some j, _⟩, hSF.fr hF8 h16 (fun _ e => by cases e) n16, hF8 _ _ n216 hi2, hF8 _ _ (fun e => n1619 e.symm) hr7, hget_hset_self h16, hNN.put hbig hUj, (by simp only; omega), fun _ => (by simp only; omega), fun e => (by cases e)⟩, hlen, ?_, sub_rfl⟩
          simp only [go_sem, reduceIte, Nat.reduceEqDiff, Nat.reduceAdd, Nat.reduceMul, Nat.reduceSub, Nat.reduceLeDiff, Nat.reduceLT, reduceCtorEq]
  have hj' : j < NO.length := by simpa using hlt
  simp only [go_sem, reduceIte, Nat.reduceEqDiff, Nat.reduceAdd, Nat.reduceMul, Nat.reduceSub, Nat.reduceLeDiff, Nat.reduceLT, reduceCtorEq, List.getElem_map]
  refine aw_seq fun K2 hK2 => ?_
  refine aw_if rfl (fun h => ?_) (fun h => by cases h)
  refine aw_skip (hK2 _ _ ?_)
  have hF3 : Fr b16 H (hset H b16 (.mapr (NO.map kvB) i1 (todo.erase j) (some j))) := Fr.hset
  have hr3 := hget_hset_self (y := AObj.mapr (NO.map kvB) i1 (todo.erase j) (some j)) hr1
  replace hSF := hSF.fr hF3 hr1 (fun _ e => by cases e) n16
  replace hw := hF3 _ _ n1621 hw
  replace h19 := hF3 _ _ (fun e => n1619 e.symm) h19
  replace hi1 := hF3 _ _ n116 hi1
  generalize hset H b16 (.mapr (NO.map kvB) i1 (todo.erase j) (some j)) = H3 at hF3 hr3 hSF hw h19 hi1
  clear hF3 hr1
  have hgj : (NO.map kvB)[j]? = some (.str NO[j].1, .bool NO[j].2) := by rw [List.getElem?_map, List.getElem?_eq_getElem hj']; rfl
  have hlen : (todo.erase j).length < todo.length := by
    have := List.length_pos_of_mem hj
    rw [List.length_erase_of_mem hj]; omega
  have hout : ∀ i, i ∉ todo.erase j → i = j ∨ i ∉ todo := fun i hi => by
    by_cases e : i = j
    · exact .inl e
    · exact .inr fun h => hi ((List.mem_erase_of_ne e).2 h)
  have hmem : NO[j] ∈ NO := List.getElem_mem hj'
  have hin : sm.look NO NO[j].1 ≠ none := look_some (List.mem_map_of_mem hmem)
  refine aw_block ?_  -- 3
  refine aw_sr rfl ?_  -- r5 @shape.go:69
  simp only [go_sem, reduceIte, Nat.reduceEqDiff, Nat.reduceAdd, Nat.reduceMul, Nat.reduceSub, Nat.reduceLeDiff, Nat.reduceLT, reduceCtorEq, hi1, hr3, hgj]
  have hw3 := hw
  simp only [twoV, e29, List.cons_append, List.nil_append] at hw3
  obtain ⟨r4, hf4, hp4⟩ := put_B NO[j].1 false K
  refine aw_rg rfl ?_  -- r6 @shape.go:70
  simp only [go_sem, reduceIte, Nat.reduceEqDiff, Nat.reduceAdd, Nat.reduceMul, Nat.reduceSub, Nat.reduceLeDiff, Nat.reduceLT, reduceCtorEq, hw3, h19, hf4, hp4]
  have hF4 : Fr b19 H3 (hset H3 b19 (.map ((putK K NO[j].1 false).map kvB))) := Fr.hset
  have n2119 : ¬ b21 = b19 := fun e => by rw [e, h19] at hw; cases hw
  refine ⟨⟨⟨putK K NO[j].1 false, todo.erase j, some j, _⟩, hSF.fr hF4 h19 (fun _ e => by cases e) n19, hF4 _ _ n2119 hw, hget_hset_self h19, hF4 _ _ n119 hi1, hF4 _ _ n1619 hr3, fun e he => ?_, nodup_put _ _ hq2, fun i hi hn => ?_⟩, hlen, ?_, sub_rfl⟩
  · rcases put_mem he with rfl | he
    · exact ⟨rfl, hin⟩
    · exact hq1 e he
  · rw [look_put]
    by_cases e : NO[i].1 = NO[j].1
    · rw [if_pos e]
    · rw [if_neg e]
      rcases hout i hn with rfl | hn
      · exact absurd rfl e
      · exact hq3 i hi hn
  · simp only [go_sem, reduceIte, Nat.reduceEqDiff, Nat.reduceAdd, Nat.reduceMul, Nat.reduceSub, Nat.reduceLeDiff, Nat.reduceLT, reduceCtorEq]
end Go.Proofs.Ytclmcpbanaojfaa

/- Types of two programs that are the same: the reference's comparison of lists of types. -/
set_option linter.unusedSimpArgs false
set_option linter.unusedVariables false
namespace Go.Proofs.Ytclmcpbanaojfaa
open Go.Proofs.YtclmcpbanaojfaaV
set_option maxHeartbeats 4000000
set_option maxRecDepth 100000
namespace sm
/-- A map, whether it is walked or not. -/
def MapO (K : KV) (o : AObj) : Prop := o = .map (K.map kvB) ∨ ∃ r t c, o = .mapr (K.map kvB) r t c
theorem ixN_lt {l : List N} {s : N} {k : Nat} (hk : k < l.length) (h : l[k] = s) (hb : ∀ j (hj : j < k), ¬ l[j]'(Nat.lt_trans hj hk) = s) : ixN l s = (k : Int) := by
  rw [ixN]
  have : l.findIdx? (fun x => decide (s = x)) = some k := by
    rw [List.findIdx?_eq_some_iff_getElem]
    exact ⟨hk, by simpa using h.symm, fun j hj => by simpa using fun e => hb j hj e.symm⟩
  rw [this]; rfl
theorem ixN_no {l : List N} {s : N} (h : ∀ j (hj : j < l.length), ¬ l[j] = s) : ixN l s = -1 := by
  rw [ixN]
  have : l.findIdx? (fun x => decide (s = x)) = none := by
    rw [List.findIdx?_eq_none_iff]
    intro x hx
    obtain ⟨j, hj, e⟩ := List.getElem_of_mem hx
    have := h j hj
    rw [e] at this
    simpa using fun q => this q.symm
  rw [this]; rfl
/-- Where the reference stops. -/
def Stop (l : List N) (s : N) (k : Nat) : Prop := k ≤ l.length ∧ (∀ j (hj : j < l.length), j < k → ¬ l[j] = s) ∧ (∀ h : k < l.length, l[k] = s)
theorem Stop.ix {l : List N} {s : N} {k : Nat} (h : Stop l s k) : (k < l.length ∧ ixN l s = (k : Int)) ∨ (k = l.length ∧ ixN l s = -1) := by
  obtain ⟨h1, h2, h3⟩ := h
  by_cases hk : k < l.length
  · exact .inl ⟨hk, ixN_lt hk (h3 hk) fun j hj => h2 j (by omega) hj⟩
  · have : k = l.length := by omega
    exact .inr ⟨this, ixN_no fun j hj => h2 j hj (by omega)⟩
theorem stop_leaf {x y : List N} {s t : N} {k n : Nat} (hl : x.length = y.length) (hx : Stop x s k) (hy : Stop y t n) (al : Al) : leafF al x y 5 s t = !(decide ((k : Int) = (x.length : Int)) || decide (¬ (k : Int) = (n : Int))) := by
  rw [leafF, if_pos rfl]
  rcases hx.ix with ⟨h1, h2⟩ | ⟨h1, h2⟩ <;> rcases hy.ix with ⟨g1, g2⟩ | ⟨g1, g2⟩
  · rw [h2, g2, decide_eq_true (show (k : Int) ≥ 0 by omega), decide_eq_false (show ¬ (k : Int) = (x.length : Int) by omega)]
    by_cases e : (k : Int) = (n : Int)
    · simp [e]
    · simp [e]
  · rw [h2, g2, decide_eq_true (show (k : Int) ≥ 0 by omega), decide_eq_false (show ¬ (k : Int) = (x.length : Int) by omega), decide_eq_false (show ¬ (k : Int) = -1 by omega), decide_eq_true (show ¬ (k : Int) = (n : Int) by omega)]; rfl
  · rw [h2, decide_eq_false (show ¬ (-1 : Int) ≥ 0 by omega), decide_eq_true (show (k : Int) = (x.length : Int) by omega)]; rfl
  · rw [h2, decide_eq_false (show ¬ (-1 : Int) ≥ 0 by omega), decide_eq_true (show (k : Int) = (x.length : Int) by omega)]; rfl
theorem hset_cons (k b : Nat) (u x : AObj) (G : Heap) : hset ((k, u) :: G) b x = if k = b then (k, x) :: G else (k, u) :: hset G b x := rfl
theorem wid_eNm' (l : List N) : wid 1 (l.map eNm) := wid_map (g := eNm) (fun _ => rfl) _
end sm
open sm
theorem q_typesAlike {m : Nat} {o : AObj} {K : KV} (ho : MapO K o) : ∀ (n : Nat) (us vs : List Typ) (x y : Nms) (n1 n2 : Bool) (t1 t2 tx ty : Tag), tszs us ≤ n → (∀ a ∈ us, OkTyp a) → us.length ≤ bulk → x.1.length ≤ bulk → x.1.length = y.1.length →
    QuietOn Try.prog [(m, o)] 93 [.sl (us.map eTyp) n1 t1, .sl (vs.map eTyp) n2 t2, .sl (x.1.map eNm) x.2 tx, .sl (y.1.map eNm) y.2 ty, .map m] (.bool (sameFs (tr K) x.1 y.1 us vs)) := by
  intro n
  induction n using Nat.strongRecOn with
  | _ n ih =>
  intro us vs x y n1 n2 t1 t2 tx ty hn hok hul hxl hxy
  have hul' : us.length ≤ 1048576 := hul
  have hxl' : x.1.length ≤ 1048576 := hxl
  refine QuietOn.weak fun G hG => ?_
  have hm := hG _ _ (hget_self _ _ _)
  refine acall_body (rs := [.tmp 10]) Try.func93 rfl rfl Try.ntmps93 (by kernel_rfl) (Nat.le_of_ble_eq_true rfl) ?_
  refine aw_sr rfl ?_  -- r0 @picks.go:296
  simp only [go_sem, reduceIte, Nat.reduceEqDiff, Nat.reduceAdd, Nat.reduceMul, Nat.reduceSub, Nat.reduceLeDiff, Nat.reduceLT, reduceCtorEq]
  refine aw_seq fun K13 hK13 => ?_
  refine aw_sr rfl ?_  -- r1 @picks.go:297
  simp only [go_sem, reduceIte, Nat.reduceEqDiff, Nat.reduceAdd, Nat.reduceMul, Nat.reduceSub, Nat.reduceLeDiff, Nat.reduceLT, reduceCtorEq]
  refine aw_if rfl (fun h => ?_) (fun h => ?_)
  · have h : ¬ us.length = vs.length := by simpa [Int.natCast_inj] using h
    refine aw_sr rfl ?_  -- r2 @picks.go:298
    simp only [go_sem, reduceIte, Nat.reduceEqDiff, Nat.reduceAdd, Nat.reduceMul, Nat.reduceSub, Nat.reduceLeDiff, Nat.reduceLT, reduceCtorEq]
    refine aw_ret ⟨trivial, _, rfl, ?_, sub_rfl⟩
    rw [sameFs_len h]; exact Vle.refl _
  have hl : us.length = vs.length := by simpa [Int.natCast_inj] using h
  refine aw_skip (hK13 _ _ ?_)
  refine aw_seq fun K14 hK14 => ?_
  refine aw_sr rfl ?_  -- r3 @picks.go:300
  simp only [go_sem, reduceIte, Nat.reduceEqDiff, Nat.reduceAdd, Nat.reduceMul, Nat.reduceSub, Nat.reduceLeDiff, Nat.reduceLT, reduceCtorEq]
  refine aw_range us.length (S := Unit) (fun i _ => [(0, .sl (us.map eTyp) n1 t1), (1, .sl (vs.map eTyp) n2 t2), (2, .sl (x.1.map eNm) x.2 tx), (3, .sl (y.1.map eNm) y.2 ty), (4, .map m)]) (fun _ _ => G) (fun i _ => sameFs (tr K) x.1 y.1 (us.take i) (vs.take i) = true) () (by omega) ?_ (fun _ _ h => h) rfl rfl (fun _ _ => rfl) ?_ ?_ (by decide)
  · simp only [go_sem, reduceIte, Nat.reduceEqDiff, Nat.reduceAdd, Nat.reduceMul, Nat.reduceSub, Nat.reduceLeDiff, Nat.reduceLT, reduceCtorEq, Int.natCast_zero]
  · intro i _ hi he
    have hi2 : i < vs.length := hl ▸ hi
    have hnx := sameFs_take (al := tr K) (x := x.1) (y := y.1) hi hi2
    rw [he, Bool.true_and] at hnx
    have hfalse := sameFs_false (al := tr K) (x := x.1) (y := y.1) hi hi2
    have hmem : us[i] ∈ us := List.getElem_mem hi
    have hsz := tszs_mem hmem
    have hoka := hok _ hmem
    refine aw_sr rfl ?_  -- r5 @picks.go:300
    simp only [go_sem, reduceIte, Nat.reduceEqDiff, Nat.reduceAdd, Nat.reduceMul, Nat.reduceSub, Nat.reduceLeDiff, Nat.reduceLT, reduceCtorEq]
    refine aw_mid (fun f' G' => ∃ b12 b13, FSub [(0, .sl (us.map eTyp) n1 t1), (1, .sl (vs.map eTyp) n2 t2), (2, .sl (x.1.map eNm) x.2 tx), (3, .sl (y.1.map eNm) y.2 ty), (4, .map m), (12, .ptr b12 0), (13, .ptr b13 0), (22, .int .i64 ((us.length : Nat) : Int)), (23, .int .i64 ((i : Nat) : Int))] f' ∧ Sub G G' ∧ hget G' b12 = some (.vars (cTyp us[i])) ∧ hget G' b13 = some (.vars (cTyp vs[i]))) ?_ ?_
    · refine aw_rgt [(0,true),(1,true),(2,true),(3,true),(4,true),(5,true),(6,true),(7,false),(8,false),(9,false),(10,false),(11,false)]
        (.fork3 [(0,true),(1,true),(2,true),(3,true),(4,true),(5,true),(6,true)] 7 8 9 (.fork2 [] 8 9 (.leaf [(9,false),(10,false),(11,false)]) (.leaf [(8,false),(10,false),(11,false)])) (.fork2 [] 7 9 (.leaf [(9,false),(10,false),(11,false)]) (.fork2 [] 7 10 (.leaf [(10,false),(11,false)]) (.leaf [(7,false),(11,false)]))) (.fork2 [] 7 8 (.leaf [(8,false),(10,false),(11,false)]) (.fork2 [] 7 10 (.leaf [(10,false),(11,false)]) (.leaf [(7,false),(11,false)])))) mixed rfl (by kernel_rfl) ?_  -- r6 @picks.go:301
      have hw1 := wid_eTyp us
      have hw2 := wid_eTyp vs
      have q1 : 0 ≤ (i : Int) ∧ (i : Int) < (us.length : Int) := ⟨by omega, by omega⟩
      have q2 : 0 ≤ (i : Int) ∧ (i : Int) < (vs.length : Int) := ⟨by omega, by omega⟩
      simp only [go_sem, reduceIte, Nat.reduceEqDiff, Nat.reduceAdd, Nat.reduceMul, Nat.reduceSub, Nat.reduceLeDiff, Nat.reduceLT, reduceCtorEq, goTr, getD_map hi, getD_map hi2, eTyp_eq, cTyp]
      repeat' first
        | exact hw1
        | exact hw2
        | omega
        | (intro bq hbq
           obtain ⟨n3, hbq'⟩ := fresh_cons hbq
           have n3' := fun e => n3 (Eq.symm e)
           simp only [go_sem, reduceIte, Nat.reduceEqDiff, Nat.reduceAdd, Nat.reduceMul, Nat.reduceSub, Nat.reduceLeDiff, Nat.reduceLT, reduceCtorEq, goTr, getD_map hi, getD_map hi2, eTyp_eq, cTyp, hget_cons, sm.hset_cons, n3, n3'])
        | intro bp hbp
        | (refine ⟨_, _, ⟨rfl, rfl, rfl, rfl, rfl, rfl, rfl, rfl, rfl⟩, sub_fresh hbq' (sub_tail hbp), ?_, ?_⟩ <;> simp [hget_cons, n3, n3'])
        | refine And.intro ?_ ?_
    intro f' G1 ⟨b12, b13, hf, hs1, h12, h13⟩
    refine AW.of_fsub hf ?_
    clear hf
    have hm1 := hs1 _ _ hm
    generalize us[i] = a at hnx hfalse hsz hoka h12
    generalize vs[i] = b at hnx hfalse h13
    have hsa := Typ.sz_eq a
    have hIH := ih (tszs a.args) (by omega) a.args b.args x y a.nl b.nl .no .no tx ty (Nat.le_refl _) (fun c hc => hoka.arg hc) hoka.len hxl hxy
    rw [sameF_eq] at hnx hfalse
    refine aw_seq fun K15 hK15 => ?_
    refine aw_sr rfl ?_  -- r7 @picks.go:302
    simp only [go_sem, reduceIte, Nat.reduceEqDiff, Nat.reduceAdd, Nat.reduceMul, Nat.reduceSub, Nat.reduceLeDiff, Nat.reduceLT, reduceCtorEq, h12, h13]
    refine goH_on (fun hg => hIH) (sub_one hm1) ?_
    simp only [go_sem, reduceIte, Nat.reduceEqDiff, Nat.reduceAdd, Nat.reduceMul, Nat.reduceSub, Nat.reduceLeDiff, Nat.reduceLT, reduceCtorEq]
    refine aw_if rfl (fun h => ?_) (fun h => ?_)
    · refine aw_sr rfl ?_  -- r8 @picks.go:303
      simp only [go_sem, reduceIte, Nat.reduceEqDiff, Nat.reduceAdd, Nat.reduceMul, Nat.reduceSub, Nat.reduceLeDiff, Nat.reduceLT, reduceCtorEq]
      refine aw_ret ⟨trivial, _, rfl, ?_, hs1⟩
      rw [hfalse ?_]
      · exact Vle.refl _
      · by_cases hk : a.kind = b.kind
        · by_cases h7 : a.kind = 7
          · simp [h7]
          · have : sameFs (tr K) x.1 y.1 a.args b.args = false := by simpa [hk, (show ¬ b.kind = 7 from hk ▸ h7)] using h
            rw [this, Bool.and_false]; rfl
        · rw [decide_eq_false hk]; rfl
    have hhead : decide (a.kind = b.kind) = true ∧ decide (a.kind = 7) = false ∧ sameFs (tr K) x.1 y.1 a.args b.args = true := by
      by_cases hk : a.kind = b.kind
      · by_cases h7 : a.kind = 7
        · rw [hk] at h7; simp [hk, h7] at h
        · have h7' : ¬ b.kind = 7 := hk ▸ h7
          exact ⟨decide_eq_true hk, decide_eq_false h7, by simpa [hk, h7'] using h⟩
      · simp [hk] at h
    rw [hhead.1, hhead.2.1, hhead.2.2] at hnx hfalse
    simp only [Bool.not_false, Bool.and_true, Bool.true_and] at hnx hfalse
    refine aw_skip (hK15 _ _ ?_)
    refine aw_sr rfl ?_  -- r9 @picks.go:305
    simp only [go_sem, reduceIte, Nat.reduceEqDiff, Nat.reduceAdd, Nat.reduceMul, Nat.reduceSub, Nat.reduceLeDiff, Nat.reduceLT, reduceCtorEq, h12]
    refine aw_block ?_  -- 2
    refine aw_chain rfl rfl rfl rfl rfl ?_  -- t56 is one of [5]
    refine aw_if rfl (fun h => ?_) (fun h => ?_)
    · have h5 : a.kind = 5 := by simpa using h
      rw [h5] at hnx hfalse
      refine aw_sr rfl ?_  -- r13 @picks.go:307
      simp only [go_sem, reduceIte, Nat.reduceEqDiff, Nat.reduceAdd, Nat.reduceMul, Nat.reduceSub, Nat.reduceLeDiff, Nat.reduceLT, reduceCtorEq]
      refine aw_mid (fun f' G' => ∃ k, k ≤ x.1.length ∧ Stop x.1 a.name k ∧ FSub [(0, .sl (us.map eTyp) n1 t1), (1, .sl (vs.map eTyp) n2 t2), (2, .sl (x.1.map eNm) x.2 tx), (3, .sl (y.1.map eNm) y.2 ty), (4, .map m), (13, .ptr b13 0), (14, .int .i64 ((k : Nat) : Int)), (22, .int .i64 ((us.length : Nat) : Int)), (23, .int .i64 ((i : Nat) : Int))] f' ∧ G' = G1) ?_ ?_
      · refine aw_block ?_  -- 3
        refine aw_lph (S := {k : Nat // k ≤ x.1.length ∧ ∀ j (hj : j < x.1.length), j < k → ¬ x.1[j] = a.name}) (fun k => [(0, .sl (us.map eTyp) n1 t1), (1, .sl (vs.map eTyp) n2 t2), (2, .sl (x.1.map eNm) x.2 tx), (3, .sl (y.1.map eNm) y.2 ty), (4, .map m), (12, .ptr b12 0), (13, .ptr b13 0), (14, .int .i64 ((k.1 : Nat) : Int)), (22, .int .i64 ((us.length : Nat) : Int)), (23, .int .i64 ((i : Nat) : Int))]) (fun _ => G1) (fun k => x.1.length - k.1) ⟨0, by omega, fun j _ h => by omega⟩ ?_ (fun _ _ h => h) ?_
        · simp only [go_sem, reduceIte, Nat.reduceEqDiff, Nat.reduceAdd, Nat.reduceMul, Nat.reduceSub, Nat.reduceLeDiff, Nat.reduceLT, reduceCtorEq, Int.natCast_zero]
        intro ⟨k, hk1, hk2⟩
        simp only
        refine aw_seq fun K17 hK17 => ?_
        refine aw_srd [(0,true),(1,true),(2,true),(3,true),(4,true),(5,true),(6,true),(7,true),(8,true),(9,true),(10,true),(11,true),(12,true)] mixed rfl (by kernel_rfl) ?_  -- r14 @picks.go:308
        by_cases hkl : k < x.1.length
        · have dk : decide ((k : Int) < (x.1.length : Int)) = true := decide_eq_true (by omega)
          simp only [go_sem, reduceIte, Nat.reduceEqDiff, Nat.reduceAdd, Nat.reduceMul, Nat.reduceSub, Nat.reduceLeDiff, Nat.reduceLT, reduceCtorEq, h12, getD_map hkl, eNm, List.length_map, dk, true_imp_iff]
          refine ⟨⟨by omega, by omega, wid_eNm' _⟩, ?_⟩
          refine aw_if rfl (fun h => ?_) (fun h => ?_)
          · have hne : ¬ x.1[k] = a.name := by simpa using h
            refine aw_skip (hK17 _ _ ?_)
            refine aw_block ?_  -- 4
            refine aw_rg rfl ?_  -- r15 @picks.go:309
            simp only [go_sem, reduceIte, Nat.reduceEqDiff, Nat.reduceAdd, Nat.reduceMul, Nat.reduceSub, Nat.reduceLeDiff, Nat.reduceLT, reduceCtorEq, wrap64 (show -9223372036854775808 ≤ (k : Int) + 1 by omega) (show (k : Int) + 1 ≤ 9223372036854775807 by omega)]
            refine ⟨⟨k + 1, by omega, fun j hj hlt => ?_⟩, by simp only; omega, ?_, sub_rfl⟩
            · by_cases e : j = k
              · subst e; exact hne
              · exact hk2 j hj (by omega)
            · simp only [go_sem, reduceIte, Nat.reduceEqDiff, Nat.reduceAdd, Nat.reduceMul, Nat.reduceSub, Nat.reduceLeDiff, Nat.reduceLT, reduceCtorEq]
              rw [Int.natCast_succ]
          have heq : x.1[k] = a.name := by simpa using h
          have hstop : Stop x.1 a.name k := ⟨hk1, hk2, fun _ => heq⟩
          refine aw_exit ?_  -- 3
          exact ⟨k, hk1, hstop, ⟨rfl, rfl, rfl, rfl, rfl, rfl, rfl, rfl, rfl⟩, rfl⟩
        · have dk : decide ((k : Int) < (x.1.length : Int)) = false := decide_eq_false (by omega)
          simp only [go_sem, reduceIte, Nat.reduceEqDiff, Nat.reduceAdd, Nat.reduceMul, Nat.reduceSub, Nat.reduceLeDiff, Nat.reduceLT, reduceCtorEq, h12, List.length_map, dk, true_imp_iff, false_imp_iff, Bool.false_eq_true]
          repeat' first
            | (refine sm.goG_off fun v => ?_
               simp only [go_sem, reduceIte, Nat.reduceEqDiff, Nat.reduceAdd, Nat.reduceMul, Nat.reduceSub, Nat.reduceLeDiff, Nat.reduceLT, reduceCtorEq, h12, dk, true_imp_iff, false_imp_iff, Bool.false_eq_true])
          refine aw_if rfl (fun h => by cases h) (fun h => ?_)
          have hstop : Stop x.1 a.name k := ⟨hk1, hk2, fun h => absurd h hkl⟩
          refine aw_exit ?_  -- 3
          exact ⟨k, hk1, hstop, ⟨rfl, rfl, rfl, rfl, rfl, rfl, rfl, rfl, rfl⟩, rfl⟩
      intro f' G' ⟨k, hkx, hsx, hf, hg⟩
      rw [hg]
      refine AW.of_fsub hf ?_
      clear hf hg
      refine aw_sr rfl ?_  -- r16 @picks.go:311
      simp only [go_sem, reduceIte, Nat.reduceEqDiff, Nat.reduceAdd, Nat.reduceMul, Nat.reduceSub, Nat.reduceLeDiff, Nat.reduceLT, reduceCtorEq]
      refine aw_mid (fun f' G' => ∃ n, n ≤ y.1.length ∧ Stop y.1 b.name n ∧ FSub [(0, .sl (us.map eTyp) n1 t1), (1, .sl (vs.map eTyp) n2 t2), (2, .sl (x.1.map eNm) x.2 tx), (3, .sl (y.1.map eNm) y.2 ty), (4, .map m), (14, .int .i64 ((k : Nat) : Int)), (15, .int .i64 ((n : Nat) : Int)), (22, .int .i64 ((us.length : Nat) : Int)), (23, .int .i64 ((i : Nat) : Int))] f' ∧ G' = G1) ?_ ?_
      · refine aw_block ?_  -- 5
        refine aw_lph (S := {n : Nat // n ≤ y.1.length ∧ ∀ j (hj : j < y.1.length), j < n → ¬ y.1[j] = b.name}) (fun n => [(0, .sl (us.map eTyp) n1 t1), (1, .sl (vs.map eTyp) n2 t2), (2, .sl (x.1.map eNm) x.2 tx), (3, .sl (y.1.map eNm) y.2 ty), (4, .map m), (13, .ptr b13 0), (14, .int .i64 ((k : Nat) : Int)), (15, .int .i64 ((n.1 : Nat) : Int)), (22, .int .i64 ((us.length : Nat) : Int)), (23, .int .i64 ((i : Nat) : Int))]) (fun _ => G1) (fun n => y.1.length - n.1) ⟨0, by omega, fun j _ h => by omega⟩ ?_ (fun _ _ h => h) ?_
        · simp only [go_sem, reduceIte, Nat.reduceEqDiff, Nat.reduceAdd, Nat.reduceMul, Nat.reduceSub, Nat.reduceLeDiff, Nat.reduceLT, reduceCtorEq, Int.natCast_zero]
        intro ⟨n, hk1, hk2⟩
        simp only
        refine aw_seq fun K17 hK17 => ?_
        refine aw_srd [(0,true),(1,true),(2,true),(3,true),(4,true),(5,true),(6,true),(7,true),(8,true),(9,true),(10,true),(11,true),(12,true)] mixed rfl (by kernel_rfl) ?_  -- r17 @picks.go:312
        by_cases hkl : n < y.1.length
        · have dk : decide ((n : Int) < (y.1.length : Int)) = true := decide_eq_true (by omega)
          simp only [go_sem, reduceIte, Nat.reduceEqDiff, Nat.reduceAdd, Nat.reduceMul, Nat.reduceSub, Nat.reduceLeDiff, Nat.reduceLT, reduceCtorEq, h13, getD_map hkl, eNm, List.length_map, dk, true_imp_iff]
          refine ⟨⟨by omega, by omega, wid_eNm' _⟩, ?_⟩
          refine aw_if rfl (fun h => ?_) (fun h => ?_)
          · have hne : ¬ y.1[n] = b.name := by simpa using h
            refine aw_skip (hK17 _ _ ?_)
            refine aw_block ?_  -- 6
            refine aw_rg rfl ?_  -- r18 @picks.go:313
            simp only [go_sem, reduceIte, Nat.reduceEqDiff, Nat.reduceAdd, Nat.reduceMul, Nat.reduceSub, Nat.reduceLeDiff, Nat.reduceLT, reduceCtorEq, wrap64 (show -9223372036854775808 ≤ (n : Int) + 1 by omega) (show (n : Int) + 1 ≤ 9223372036854775807 by omega)]
            refine ⟨⟨n + 1, by omega, fun j hj hlt => ?_⟩, by simp only; omega, ?_, sub_rfl⟩
            · by_cases e : j = n
              · subst e; exact hne
              · exact hk2 j hj (by omega)
            · simp only [go_sem, reduceIte, Nat.reduceEqDiff, Nat.reduceAdd, Nat.reduceMul, Nat.reduceSub, Nat.reduceLeDiff, Nat.reduceLT, reduceCtorEq]
              rw [Int.natCast_succ]
          have heq : y.1[n] = b.name := by simpa using h
          have hstop : Stop y.1 b.name n := ⟨hk1, hk2, fun _ => heq⟩
          refine aw_exit ?_  -- 5
          exact ⟨n, hk1, hstop, ⟨rfl, rfl, rfl, rfl, rfl, rfl, rfl, rfl, rfl⟩, rfl⟩
        · have dk : decide ((n : Int) < (y.1.length : Int)) = false := decide_eq_false (by omega)
          simp only [go_sem, reduceIte, Nat.reduceEqDiff, Nat.reduceAdd, Nat.reduceMul, Nat.reduceSub, Nat.reduceLeDiff, Nat.reduceLT, reduceCtorEq, h13, List.length_map, dk, true_imp_iff, false_imp_iff, Bool.false_eq_true]
          repeat' first
            | (refine sm.goG_off fun v => ?_
               simp only [go_sem, reduceIte, Nat.reduceEqDiff, Nat.reduceAdd, Nat.reduceMul, Nat.reduceSub, Nat.reduceLeDiff, Nat.reduceLT, reduceCtorEq, h13, dk, true_imp_iff, false_imp_iff, Bool.false_eq_true])
          refine aw_if rfl (fun h => by cases h) (fun h => ?_)
          have hstop : Stop y.1 b.name n := ⟨hk1, hk2, fun h => absurd h hkl⟩
          refine aw_exit ?_  -- 5
          exact ⟨n, hk1, hstop, ⟨rfl, rfl, rfl, rfl, rfl, rfl, rfl, rfl, rfl⟩, rfl⟩
      intro f' G' ⟨n, hny, hsy, hf, hg⟩
      rw [hg]
      refine AW.of_fsub hf ?_
      clear hf hg
      rw [stop_leaf hxy hsx hsy] at hnx hfalse
      refine aw_sr rfl ?_  -- r19 @picks.go:315
      simp only [go_sem, reduceIte, Nat.reduceEqDiff, Nat.reduceAdd, Nat.reduceMul, Nat.reduceSub, Nat.reduceLeDiff, Nat.reduceLT, reduceCtorEq, List.length_map]
      refine aw_if rfl (fun h => ?_) (fun h => ?_)
      · refine aw_sr rfl ?_  -- r20 @picks.go:316
        simp only [go_sem, reduceIte, Nat.reduceEqDiff, Nat.reduceAdd, Nat.reduceMul, Nat.reduceSub, Nat.reduceLeDiff, Nat.reduceLT, reduceCtorEq]
        refine aw_ret ⟨trivial, _, rfl, ?_, hs1⟩
        rw [hfalse (by rw [h]; rfl)]
        exact Vle.refl _
      refine aw_skip ⟨(), hnx.trans (by rw [h]; rfl), ?_, hs1⟩
      simp only [go_sem, reduceIte, Nat.reduceEqDiff, Nat.reduceAdd, Nat.reduceMul, Nat.reduceSub, Nat.reduceLeDiff, Nat.reduceLT, reduceCtorEq]
    have h5 : ¬ a.kind = 5 := by simpa using h
    refine aw_chain rfl rfl rfl rfl rfl ?_  -- t56 is one of [6]
    refine aw_if rfl (fun h => ?_) (fun h => ?_)
    · have h6 : a.kind = 6 := by simpa using h
      rw [leafF, if_neg h5, if_pos h6] at hnx hfalse
      have hlk := look_B a.name K 0
      have hcond : ∀ b1 b2 : Bool, (!(b1 && b2)) = (!b1 || !b2) := fun b1 b2 => by cases b1 <;> rfl
      refine aw_mid (fun f' G' => FSub [(119, .bool (!(decide (a.name = b.name) && tr K a.name))), (0, .sl (us.map eTyp) n1 t1), (1, .sl (vs.map eTyp) n2 t2), (2, .sl (x.1.map eNm) x.2 tx), (3, .sl (y.1.map eNm) y.2 ty), (4, .map m), (22, .int .i64 ((us.length : Nat) : Int)), (23, .int .i64 ((i : Nat) : Int))] f' ∧ G' = G1) ?_ ?_
      · refine aw_rg rfl ?_  -- r22 @picks.go:319
        cases hn : decide (a.name = b.name) with
        | false =>
          have hn2 : decide (a.name ≠ b.name) = true := decide_eq_true (of_decide_eq_false hn)
          simp only [go_sem, reduceIte, Nat.reduceEqDiff, Nat.reduceAdd, Nat.reduceMul, Nat.reduceSub, Nat.reduceLeDiff, Nat.reduceLT, reduceCtorEq, h12, h13, hn2, true_imp_iff, false_imp_iff, Bool.false_eq_true, Bool.not_true]
          repeat' first
            | (refine sm.goG_off fun v => ?_
               simp only [go_sem, reduceIte, Nat.reduceEqDiff, Nat.reduceAdd, Nat.reduceMul, Nat.reduceSub, Nat.reduceLeDiff, Nat.reduceLT, reduceCtorEq, h12, h13, hn2, true_imp_iff, false_imp_iff, Bool.false_eq_true, Bool.not_true])
          exact ⟨⟨rfl, rfl, rfl, rfl, rfl, rfl, rfl, rfl⟩, rfl⟩
        | true =>
          have hn2 : decide (a.name ≠ b.name) = false := decide_eq_false (fun h => h (of_decide_eq_true hn))
          rcases ho with rfl | ⟨r0, t0, c0, rfl⟩
          · simp only [go_sem, reduceIte, Nat.reduceEqDiff, Nat.reduceAdd, Nat.reduceMul, Nat.reduceSub, Nat.reduceLeDiff, Nat.reduceLT, reduceCtorEq, h12, h13, hn2, hm1, ↓hlk, true_imp_iff, Bool.not_false]
            exact ⟨⟨rfl, rfl, rfl, rfl, rfl, rfl, rfl, rfl⟩, rfl⟩
          · simp only [go_sem, reduceIte, Nat.reduceEqDiff, Nat.reduceAdd, Nat.reduceMul, Nat.reduceSub, Nat.reduceLeDiff, Nat.reduceLT, reduceCtorEq, h12, h13, hn2, hm1, ↓hlk, true_imp_iff, Bool.not_false]
            exact ⟨⟨rfl, rfl, rfl, rfl, rfl, rfl, rfl, rfl⟩, rfl⟩
      intro f' G' ⟨hf, hg⟩
      rw [hg]
      refine AW.of_fsub hf ?_
      refine aw_if rfl (fun h => ?_) (fun h => ?_)
      · refine aw_sr rfl ?_  -- r23 @picks.go:320
        simp only [go_sem, reduceIte, Nat.reduceEqDiff, Nat.reduceAdd, Nat.reduceMul, Nat.reduceSub, Nat.reduceLeDiff, Nat.reduceLT, reduceCtorEq]
        refine aw_ret ⟨trivial, _, rfl, ?_, hs1⟩
        rw [hfalse (by rw [Bool.not_eq_true'] at h; exact h)]
        exact Vle.refl _
      refine aw_skip ⟨(), hnx.trans (by rw [Bool.not_eq_false'] at h; exact h), ?_, hs1⟩
      simp only [go_sem, reduceIte, Nat.reduceEqDiff, Nat.reduceAdd, Nat.reduceMul, Nat.reduceSub, Nat.reduceLeDiff, Nat.reduceLT, reduceCtorEq]
    have h6 : ¬ a.kind = 6 := by simpa using h
    rw [leafF, if_neg h5, if_neg h6] at hnx hfalse
    refine aw_sr rfl ?_  -- r10 @picks.go:323
    simp only [go_sem, reduceIte, Nat.reduceEqDiff, Nat.reduceAdd, Nat.reduceMul, Nat.reduceSub, Nat.reduceLeDiff, Nat.reduceLT, reduceCtorEq, h12, h13]
    refine aw_if rfl (fun h => ?_) (fun h => ?_)
    · refine aw_sr rfl ?_  -- r11 @picks.go:324
      simp only [go_sem, reduceIte, Nat.reduceEqDiff, Nat.reduceAdd, Nat.reduceMul, Nat.reduceSub, Nat.reduceLeDiff, Nat.reduceLT, reduceCtorEq]
      refine aw_ret ⟨trivial, _, rfl, ?_, hs1⟩
      rw [hfalse ?_]
      · exact Vle.refl _
      · by_cases e1 : a.name = []
        · by_cases e2 : b.name = []
          · simp [e1, e2] at h
          · simp [e2]
        · simp [e1]
    refine aw_skip ⟨(), hnx.trans ?_, ?_, hs1⟩
    · by_cases e1 : a.name = []
      · by_cases e2 : b.name = []
        · simp [e1, e2]
        · simp [e2] at h
      · simp [e1] at h
    simp only [go_sem, reduceIte, Nat.reduceEqDiff, Nat.reduceAdd, Nat.reduceMul, Nat.reduceSub, Nat.reduceLeDiff, Nat.reduceLT, reduceCtorEq]
  intro _ he
  refine hK14 _ _ ?_
  refine aw_sr rfl ?_  -- r25 @picks.go:328
  simp only [go_sem, reduceIte, Nat.reduceEqDiff, Nat.reduceAdd, Nat.reduceMul, Nat.reduceSub, Nat.reduceLeDiff, Nat.reduceLT, reduceCtorEq]
  refine aw_ret ⟨trivial, _, rfl, ?_, sub_rfl⟩
  rw [List.take_length, hl, List.take_length] at he
  rw [he]; exact Vle.refl _
end Go.Proofs.Ytclmcpbanaojfaa

/- Types of two programs that are the same: the reference. -/
set_option linter.unusedSimpArgs false
set_option linter.unusedVariables false
namespace Go.Proofs.Ytclmcpbanaojfaa
open Go.Proofs.YtclmcpbanaojfaaV
set_option maxHeartbeats 8000000
set_option maxRecDepth 100000
namespace sm
theorem qonO {P : Go.Program} {b : Nat} {o : AObj} {G : Heap} {g : FuncId} {args : List V} {x : V} (h : QuietOn P [(b, o)] g args x) (hb : hget G b = some o) (ho : ∀ e c, o ≠ .top e c) : QOn P G g args x := fun G' hs => h G' (sub_one (hs _ _ hb ho))
theorem MapO.not_top {K : KV} {o : AObj} (h : MapO K o) : ∀ e c, o ≠ .top e c := fun e c q => by
  rcases h with h | ⟨_, _, _, h⟩ <;> rw [h] at q <;> cases q
theorem MapO.not_vars {K : KV} {o : AObj} (h : MapO K o) : ∀ cs, o ≠ .vars cs := fun e q => by
  rcases h with h | ⟨_, _, _, h⟩ <;> rw [h] at q <;> cases q
/-- A name that is there is put where it stands. -/
theorem put_at (n : N) (b : Bool) : ∀ (l : KV) (i : Nat), look l n ≠ none → ∃ j, ∃ h : j < l.length, mfind (.str n) (l.map kvB) i = some (some (i + j, .bool l[j].2)) ∧ (l.map kvB).set j (.str n, .bool b) = (putK l n b).map kvB
  | [], i, h => absurd rfl h
  | q :: l, i, h => by
    simp only [List.map_cons, mfind, keyEq, putK]
    simp only [look] at h
    by_cases hn : n = q.1
    · rw [decide_eq_true hn, if_pos hn.symm]
      exact ⟨0, by simp, rfl, rfl⟩
    · rw [if_neg (fun e => hn e.symm)] at h
      rw [decide_eq_false hn, if_neg (fun e => hn e.symm)]
      obtain ⟨j, hj, h1, h2⟩ := put_at n b l (i + 1) h
      exact ⟨j + 1, by simp; omega, by rw [show i + (j + 1) = i + 1 + j from by omega]; exact h1, by rw [List.set_cons_succ, h2]; rfl⟩
theorem put_same (n : N) (b : Bool) : ∀ {l : KV}, look l n ≠ none → (putK l n b).map (·.1) = l.map (·.1)
  | [], h => absurd rfl h
  | q :: l, h => by
    simp only [putK]
    simp only [look] at h
    by_cases hn : q.1 = n
    · rw [if_pos hn, List.map_cons, List.map_cons, hn]
    · rw [if_neg hn] at h ⊢
      rw [List.map_cons, List.map_cons, put_same n b h]
def cnt : KV → Nat
  | [] => 0
  | q :: l => (if q.2 = true then 1 else 0) + cnt l
theorem cnt_put (n : N) : ∀ {l : KV}, look l n = some true → cnt (putK l n false) < cnt l
  | q :: l, h => by
    simp only [putK]
    simp only [look] at h
    by_cases hn : q.1 = n
    · rw [if_pos hn] at h ⊢
      simp only [cnt, Option.some.inj h]
      simp
    · rw [if_neg hn] at h ⊢
      have := cnt_put n h
      simp only [cnt]; omega
/-- What the reference keeps is not less than the greatest. -/
structure RK (p q : Prgm) (K : KV) : Prop where
  le : Le (big p q) (tr K)
  nd : (K.map (·.1)).Nodup
  old : ∀ n, look K n ≠ none → (dataF p n).isSome = true
  new : ∀ n, look K n = some true → (dataF q n).isSome = true
theorem RK.put {p q : Prgm} {K : KV} (h : RK p q K) {n : N} (hn : look K n ≠ none) (hb : big p q n = false) : RK p q (putK K n false) := by
  refine ⟨fun m hm => ?_, nodup_put _ _ h.nd, fun m hm => ?_, fun m hm => ?_⟩
  · have e : ¬ m = n := fun e => by rw [e, hb] at hm; cases hm
    have := tr_iff.1 (h.le m hm)
    rw [tr_iff, look_put, if_neg e]; exact this
  · rw [look_put] at hm
    by_cases e : m = n
    · rw [e]; exact h.old n hn
    · rw [if_neg e] at hm; exact h.old m hm
  · rw [look_put] at hm
    by_cases e : m = n
    · rw [if_pos e] at hm; cases hm
    · rw [if_neg e] at hm; exact h.new m hm
theorem RK.eq {p q : Prgm} {K : KV} (h : RK p q K) (hp : Post p q (tr K)) : tr K = big p q := by
  funext n
  cases h1 : tr K n with
  | true => exact (big_of hp n h1).symm
  | false =>
    cases h2 : big p q n with
    | false => rfl
    | true => rw [h.le n h2] at h1; cases h1
theorem maksF_take1 {al : Al} {x y : List N} : ∀ {us vs : List Mak} (i : Nat), maksF al x y us vs = true → maksF al x y (us.take i) (vs.take i) = true
  | [], [], i, _ => by simp [maksF]
  | [], _ :: _, i, h => by cases h
  | _ :: _, [], i, h => by cases h
  | a :: us, b :: vs, 0, _ => by simp [maksF]
  | a :: us, b :: vs, i + 1, h => by
    rw [maksF, Bool.and_eq_true] at h
    rw [List.take_succ_cons, List.take_succ_cons, maksF, h.1, maksF_take1 i h.2]; rfl
structure T1 where
  K : KV
  H : Heap
structure T2 where
  K : KV
  turned : Bool
  H : Heap
structure T3 where
  K : KV
  turned : Bool
  todo : List Nat
  cur : Option Nat
  H : Heap
end sm
open sm
theorem q_rShapeSame {p q : Prgm} (hp : o23 p.2.2.2.1) (hq : o23 q.2.2.2.1) {a b : Typ} (oa : OkTyp a) : Quiet Try.prog 22 [.agg (cPrg p), .agg (cPrg q), .agg (cTyp a), .agg (cTyp b)] (.bool (sameF (big p q) [] [] a b)) := by
  have hpl : p.2.2.2.1.1.length ≤ 1048576 := hp.2.1
  refine Quiet.weak fun G => ?_
  refine acall_body (rs := [.tmp 8]) Try.func22 rfl rfl Try.ntmps22 (by kernel_rfl) (Nat.le_of_ble_eq_true rfl) ?_
  refine aw_sr rfl ?_  -- r0 @picks.go:332
  simp only [go_sem, reduceIte, Nat.reduceEqDiff, Nat.reduceAdd, Nat.reduceMul, Nat.reduceSub, Nat.reduceLeDiff, Nat.reduceLT, reduceCtorEq]
  intro b4 hb4 b5 hb5 b6 hb6 b7 hb7
  refine aw_box4 hb4 hb5 hb6 hb7 fun B1 hs1 h4 h5 h6 h7 => ?_
  have hSF1 : SF p q a b b4 b5 b6 b7 G B1 := ⟨h4, h5, h6, h7, hs1⟩
  refine aw_sr rfl ?_  -- r1 @picks.go:333
  simp only [go_sem, reduceIte, Nat.reduceEqDiff, Nat.reduceAdd, Nat.reduceMul, Nat.reduceSub, Nat.reduceLeDiff, Nat.reduceLT, reduceCtorEq]
  intro b19 hb19
  have n19 := sub_none hs1 hb19
  refine aw_box1 hb19 fun B2 hs2 h19 => ?_
  replace hSF1 := hSF1.up hs2
  clear h4 h5 h6 h7 hs1 hs2 hb4 hb5 hb6 hb7 hb19
  have h4 := hSF1.h4
  simp only [e29] at h4
  refine aw_seq fun K5 hK5 => ?_
  refine aw_sr rfl ?_  -- r2 @picks.go:334
  simp only [go_sem, reduceIte, Nat.reduceEqDiff, Nat.reduceAdd, Nat.reduceMul, Nat.reduceSub, Nat.reduceLeDiff, Nat.reduceLT, reduceCtorEq, h4]
  refine aw_range p.2.2.2.1.1.length (S := T1) (fun i s => [(4, .ptr b4 0), (5, .ptr b5 0), (6, .ptr b6 0), (7, .ptr b7 0), (9, .map b19), (21, .sl (p.2.2.2.1.1.map eData) p.2.2.2.1.2 .no)]) (fun _ s => s.H) (fun i s => SF p q a b b4 b5 b6 b7 G s.H ∧ hget s.H b19 = some (.map (s.K.map kvB)) ∧ (s.K.map (·.1)).Nodup ∧ (∀ n v, sm.look s.K n = some v → v = (dataF q n).isSome ∧ (dataF p n).isSome = true) ∧ ∀ j (h : j < p.2.2.2.1.1.length), j < i → sm.look s.K p.2.2.2.1.1[j].1 ≠ none) ⟨[], B2⟩ (by omega) ?_ (fun _ _ h => h) ⟨hSF1, h19, List.nodup_nil, fun n v h => (by cases h), fun j _ h => by omega⟩ rfl (fun _ _ => rfl) ?_ ?_ (by decide)
  · simp only [go_sem, reduceIte, Nat.reduceEqDiff, Nat.reduceAdd, Nat.reduceMul, Nat.reduceSub, Nat.reduceLeDiff, Nat.reduceLT, reduceCtorEq, Int.natCast_zero]
  · intro i ⟨K, H⟩ hi ⟨hSF, h19, hnd, hkv, hin⟩
    simp only at hSF h19 hnd hkv hin ⊢
    refine aw_sr rfl ?_  -- r4 @picks.go:334
    simp only [go_sem, reduceIte, Nat.reduceEqDiff, Nat.reduceAdd, Nat.reduceMul, Nat.reduceSub, Nat.reduceLeDiff, Nat.reduceLT, reduceCtorEq, getD_map hi, e194]
    refine ⟨⟨by omega, by omega, wid_map (g := eData) (fun _ => rfl) _⟩, ?_⟩
    intro b11 hb11
    refine aw_box1 hb11 fun B3 hs3 h11 => ?_
    replace hSF := hSF.up hs3
    replace h19 := hs3 _ _ h19
    clear hb11 hs3
    have h5 := hSF.h5
    have hdo := q_dataOf q p.2.2.2.1.1[i].1 hq.2.1
    simp only [e29] at h5 hdo
    obtain ⟨r, hf, hpt⟩ := put_B p.2.2.2.1.1[i].1 (dataF q p.2.2.2.1.1[i].1).isSome K
    have hge : decide (ixI (q.2.2.2.1.1.findIdx? fun d => decide (d.1 = p.2.2.2.1.1[i].1)) ≥ 0) = (dataF q p.2.2.2.1.1[i].1).isSome := by
      rcases dataF_ix q p.2.2.2.1.1[i].1 with ⟨e1, e2⟩ | ⟨j, hj, e1, e2⟩
      · rw [e1, e2]; rfl
      · rw [e1, e2]; exact decide_eq_true (by simp only [ixI]; omega)
    have hge' : decide (0 ≤ ixI (q.2.2.2.1.1.findIdx? fun d => decide (d.1 = p.2.2.2.1.1[i].1))) = (dataF q p.2.2.2.1.1[i].1).isSome := hge
    have hps : (dataF p p.2.2.2.1.1[i].1).isSome = true := by
      rw [dataF, List.find?_isSome]
      exact ⟨_, List.getElem_mem hi, by simp⟩
    refine aw_rgd [(0,true),(1,true),(2,true),(3,true),(4,true),(5,true),(6,true),(7,true),(8,false)] mixed rfl (by kernel_rfl) ?_  -- r5 @picks.go:335
    simp only [go_sem, reduceIte, Nat.reduceEqDiff, Nat.reduceAdd, Nat.reduceMul, Nat.reduceSub, Nat.reduceLeDiff, Nat.reduceLT, reduceCtorEq, h5, h11]
    refine goQ_by hdo ?_
    simp only [go_sem, reduceIte, Nat.reduceEqDiff, Nat.reduceAdd, Nat.reduceMul, Nat.reduceSub, Nat.reduceLeDiff, Nat.reduceLT, reduceCtorEq, h5, h11, h19, hge, hge', hf, hpt]
    refine ⟨⟨putK K p.2.2.2.1.1[i].1 (dataF q p.2.2.2.1.1[i].1).isSome, _⟩, ⟨hSF.fr fr_hset h19 (fun _ e => by cases e) n19, hget_hset_self h19, nodup_put _ _ hnd, fun n v hv => ?_, fun j hj hlt => ?_⟩, ?_, sub_rfl⟩
    · rw [look_put] at hv
      by_cases e : n = p.2.2.2.1.1[i].1
      · rw [if_pos e] at hv
        rw [e]; exact ⟨(Option.some.inj hv).symm, hps⟩
      · rw [if_neg e] at hv
        exact hkv n v hv
    · rw [look_put]
      by_cases e : p.2.2.2.1.1[j].1 = p.2.2.2.1.1[i].1
      · rw [if_pos e]; simp
      · rw [if_neg e]
        by_cases e2 : j = i
        · subst e2; exact absurd rfl e
        · exact hin j hj (by omega)
    · simp only [go_sem, reduceIte, Nat.reduceEqDiff, Nat.reduceAdd, Nat.reduceMul, Nat.reduceSub, Nat.reduceLeDiff, Nat.reduceLT, reduceCtorEq]
  intro ⟨K, H⟩ ⟨hSF, h19, hnd, hkv, hin⟩
  simp only at hSF h19 hnd hkv hin ⊢
  clear hSF1 h4
  have hRK : RK p q K := by
    refine ⟨fun n hn => ?_, hnd, fun n hn => ?_, fun n hn => ((hkv n true hn).1).symm⟩
    · have h1 := big_post p q n hn
      rw [okD] at h1
      cases hd : dataF p n with
      | none => rw [hd] at h1; cases h1
      | some d =>
        cases he : dataF q n with
        | none => rw [hd, he] at h1; cases h1
        | some e =>
          rcases dataF_ix p n with ⟨e1, _⟩ | ⟨j, hj, e1, e2⟩
          · rw [hd] at e1; cases e1
          · have hname : p.2.2.2.1.1[j].1 = n := by
              have := List.find?_some e1
              simpa using this
            have h2 := hin j hj hj
            rw [hname] at h2
            cases hk : sm.look K n with
            | none => exact absurd hk h2
            | some v =>
              have := (hkv n v hk).1
              rw [he] at this
              rw [tr_iff, hk, this]; rfl
    · cases hk : sm.look K n with
      | none => exact absurd hk hn
      | some v => exact (hkv n v hk).2
  clear hnd hkv hin
  refine hK5 _ _ ?_
  refine aw_seq fun K6 hK6 => ?_
  refine aw_sr rfl ?_  -- r7 @picks.go:337
  simp only [go_sem, reduceIte, Nat.reduceEqDiff, Nat.reduceAdd, Nat.reduceMul, Nat.reduceSub, Nat.reduceLeDiff, Nat.reduceLT, reduceCtorEq]
  refine aw_block ?_  -- 2
  refine aw_lph (S := {s : T2 // SF p q a b b4 b5 b6 b7 G s.H ∧ (∃ o, MapO s.K o ∧ hget s.H b19 = some o) ∧ RK p q s.K ∧ (s.turned = false → Post p q (tr s.K))}) (fun s => [(4, .ptr b4 0), (5, .ptr b5 0), (6, .ptr b6 0), (7, .ptr b7 0), (9, .map b19), (12, .bool s.1.turned)]) (fun s => s.1.H) (fun s => 2 * cnt s.1.K + (if s.1.turned = true then 1 else 0)) ⟨⟨K, true, H⟩, hSF, ⟨_, .inl rfl, h19⟩, hRK, fun e => by cases e⟩ ?_ (fun _ _ h => h) ?_
  · simp only [go_sem, reduceIte, Nat.reduceEqDiff, Nat.reduceAdd, Nat.reduceMul, Nat.reduceSub, Nat.reduceLeDiff, Nat.reduceLT, reduceCtorEq]
  clear hSF h19 hRK
  clear K H
  intro ⟨⟨K, turned, H⟩, hSF, ⟨o, ho, h19⟩, hRK, hpost⟩
  simp only at hSF h19 hRK hpost ⊢
  refine aw_seq fun K7 hK7 => ?_
  refine aw_sr rfl ?_  -- r8 @picks.go:337
  simp only [go_sem, reduceIte, Nat.reduceEqDiff, Nat.reduceAdd, Nat.reduceMul, Nat.reduceSub, Nat.reduceLeDiff, Nat.reduceLT, reduceCtorEq]
  cases turned with
  | false =>
    refine aw_if rfl (fun h => by cases h) (fun h => ?_)
    refine aw_exit ?_  -- 2
    refine hK6 _ _ ?_
    have h6 := hSF.h6
    have h7 := hSF.h7
    have heq := hRK.eq (hpost rfl)
    refine aw_sr rfl ?_  -- r23 @picks.go:354
    simp only [go_sem, reduceIte, Nat.reduceEqDiff, Nat.reduceAdd, Nat.reduceMul, Nat.reduceSub, Nat.reduceLeDiff, Nat.reduceLT, reduceCtorEq, h6, h7]
    have hta := q_typesAlike ho (tszs [a]) [a] [b] ([], true) ([], true) false false .full .full .full .full (Nat.le_refl _) (fun c hc => by rw [List.mem_singleton] at hc; rw [hc]; exact oa) (show 1 ≤ bulk by decide) (by decide) rfl (m := b19)
    simp only [List.map_cons, List.map_nil, eTyp_eq] at hta
    refine goA_on hta (sub_one h19) ?_
    simp only [go_sem, reduceIte, Nat.reduceEqDiff, Nat.reduceAdd, Nat.reduceMul, Nat.reduceSub, Nat.reduceLeDiff, Nat.reduceLT, reduceCtorEq]
    refine aw_ret ⟨trivial, _, rfl, ?_, hSF.sub⟩
    rw [heq, sameFs, sameFs, Bool.and_true]; exact Vle.refl _
  | true =>
  refine aw_if rfl (fun h => ?_) (fun h => by cases h)
  refine aw_skip (hK7 _ _ ?_)
  have hgo : ∃ H', (∀ (N : Nat) (c : Code) (Q : Cont) (f : Go.Proofs.YtclmcpbanaojfaaV.Frame), AW Try.prog N c Q f H' → AW Try.prog N c Q f H) ∧ SF p q a b b4 b5 b6 b7 G H' ∧ hget H' b19 = some (.map (K.map kvB)) := by
    rcases ho with rfl | ⟨r, t, c, rfl⟩
    · exact ⟨H, fun _ _ _ _ h => h, hSF, h19⟩
    · exact ⟨_, fun _ _ _ _ h => AW.unr h19 h, hSF.fr fr_hset h19 (fun _ e => by cases e) n19, hget_hset_self h19⟩
  obtain ⟨H1, hto, hSF, h19⟩ := hgo
  refine hto _ _ _ _ ?_
  clear hto
  refine aw_block ?_  -- 3
  refine aw_sr rfl ?_  -- r9 @picks.go:338
  simp only [go_sem, reduceIte, Nat.reduceEqDiff, Nat.reduceAdd, Nat.reduceMul, Nat.reduceSub, Nat.reduceLeDiff, Nat.reduceLT, reduceCtorEq]
  refine aw_sr rfl ?_  -- r10 @picks.go:339
  simp only [go_sem, reduceIte, Nat.reduceEqDiff, Nat.reduceAdd, Nat.reduceMul, Nat.reduceSub, Nat.reduceLeDiff, Nat.reduceLT, reduceCtorEq, h19]
  intro i1 hi1
  try rw [List.length_map]
  generalize hG1 : ((i1, AObj.miter b19) :: hset H1 b19 _) = H2
  obtain ⟨hi1', hr1, hF1⟩ := mrange h19 hi1 hG1
  clear hG1
  replace hSF := hSF.fr hF1 h19 (fun _ e => by cases e) n19
  have n119 : ¬ i1 = b19 := fun e => by rw [e, hr1] at hi1'; cases hi1'
  clear hF1 hi1 h19
  refine aw_block ?_  -- 4
  refine aw_lph (S := {s : T3 // SF p q a b b4 b5 b6 b7 G s.H ∧ hget s.H i1 = some (.miter b19) ∧ hget s.H b19 = some (.mapr (s.K.map kvB) i1 s.todo s.cur) ∧ RK p q s.K ∧ s.K.map (·.1) = K.map (·.1) ∧ cnt s.K ≤ cnt K ∧ (s.turned = true → cnt s.K < cnt K) ∧ (s.turned = false → s.K = K ∧ ∀ j (h : j < K.length), j ∉ s.todo → K[j].2 = true → okD p q (tr K) K[j].1 = true)}) (fun s => [(4, .ptr b4 0), (5, .ptr b5 0), (6, .ptr b6 0), (7, .ptr b7 0), (9, .map b19), (12, .bool s.1.turned), (38, .ptr i1 0)]) (fun s => s.1.H) (fun s => s.1.todo.length) ⟨⟨K, false, List.range K.length, none, H2⟩, hSF, hi1', hr1, hRK, rfl, Nat.le_refl _, fun e => (by cases e), fun _ => ⟨rfl, fun j hj hn => absurd (List.mem_range.2 hj) hn⟩⟩ ?_ (fun _ _ h => h) ?_
  · simp only [go_sem, reduceIte, Nat.reduceEqDiff, Nat.reduceAdd, Nat.reduceMul, Nat.reduceSub, Nat.reduceLeDiff, Nat.reduceLT, reduceCtorEq]
  clear hSF hi1' hr1
  clear H2
  intro ⟨⟨Kc, turned, todo, cur, H⟩, hSF, hi1, hr1, hRc, hks, hc1, hc2, hc3⟩
  simp only at hSF hi1 hr1 hRc hks hc1 hc2 hc3 ⊢
  have hkl : Kc.length = K.length := by have := congrArg List.length hks; simpa using this
  refine aw_sr rfl ?_  -- r11 @picks.go:339
  simp only [go_sem, reduceIte, Nat.reduceEqDiff, Nat.reduceAdd, Nat.reduceMul, Nat.reduceSub, Nat.reduceLeDiff, Nat.reduceLT, reduceCtorEq, hi1, hr1]
  refine goNm_by (fun htd => ?_) (fun j hj hlt => ?_)
  · simp only [go_sem, reduceIte, Nat.reduceEqDiff, Nat.reduceAdd, Nat.reduceMul, Nat.reduceSub, Nat.reduceLeDiff, Nat.reduceLT, reduceCtorEq]
    refine aw_seq fun K8 hK8 => ?_
    refine aw_if rfl (fun h => by cases h) (fun h => ?_)
    refine aw_exit ?_  -- 4
    subst htd
    refine ⟨⟨⟨Kc, turned, H⟩, hSF, ⟨_, .inr ⟨_, _, _, rfl⟩, hr1⟩, hRc, fun ht n hn => ?_⟩, ?_, ?_, sub_rfl⟩
    · obtain ⟨rfl, h2⟩ := hc3 ht
      obtain ⟨j, hj, e⟩ := List.getElem_of_mem (look_mem (tr_iff.1 hn))
      have := h2 j hj (by simp) (by rw [e])
      rw [e] at this; exact this
    · simp only
      cases turned with
      | false => simp; omega
      | true => have := hc2 rfl; simp; omega
    · simp only [go_sem, reduceIte, Nat.reduceEqDiff, Nat.reduceAdd, Nat.reduceMul, Nat.reduceSub, Nat.reduceLeDiff, Nat.reduceLT, reduceCtorEq]
  have hj' : j < Kc.length := by simpa using hlt
  simp only [go_sem, reduceIte, Nat.reduceEqDiff, Nat.reduceAdd, Nat.reduceMul, Nat.reduceSub, Nat.reduceLeDiff, Nat.reduceLT, reduceCtorEq, List.getElem_map]
  refine aw_seq fun K8 hK8 => ?_
  refine aw_if rfl (fun h => ?_) (fun h => by cases h)
  refine aw_skip (hK8 _ _ ?_)
  have hr3 := hget_hset_self (y := AObj.mapr (Kc.map kvB) i1 (todo.erase j) (some j)) hr1
  have hF3 : Fr b19 H (hset H b19 (.mapr (Kc.map kvB) i1 (todo.erase j) (some j))) := Fr.hset
  replace hSF := hSF.fr hF3 hr1 (fun _ e => by cases e) n19
  replace hi1 := hF3 _ _ n119 hi1
  generalize hset H b19 (.mapr (Kc.map kvB) i1 (todo.erase j) (some j)) = H3 at hF3 hr3 hSF hi1
  clear hF3 hr1
  have hgj : (Kc.map kvB)[j]? = some (.str Kc[j].1, .bool Kc[j].2) := by rw [List.getElem?_map, List.getElem?_eq_getElem hj']; rfl
  have hlen : (todo.erase j).length < todo.length := by
    have := List.length_pos_of_mem hj
    rw [List.length_erase_of_mem hj]; omega
  have hout : ∀ i, i ∉ todo.erase j → i = j ∨ i ∉ todo := fun i hi => by
    by_cases e : i = j
    · exact .inl e
    · exact .inr fun h => hi ((List.mem_erase_of_ne e).2 h)
  have hmem : Kc[j] ∈ Kc := List.getElem_mem hj'
  have hlkj := look_of hRc.nd hmem
  have hKj : turned = false → Kc = K → ∀ (h : j < K.length), K[j] = Kc[j] := fun _ e h => by subst e; rfl
  generalize hkj : Kc[j] = kj at hlkj hgj hKj
  obtain ⟨n, v⟩ := kj
  simp only at hlkj hgj hKj
  refine aw_block ?_  -- 5
  refine aw_sr rfl ?_  -- r12 @picks.go:339
  simp only [go_sem, reduceIte, Nat.reduceEqDiff, Nat.reduceAdd, Nat.reduceMul, Nat.reduceSub, Nat.reduceLeDiff, Nat.reduceLT, reduceCtorEq, hi1, hr3, hgj]
  refine aw_seq fun K9 hK9 => ?_
  refine aw_sr rfl ?_  -- r13 @picks.go:340
  simp only [go_sem, reduceIte, Nat.reduceEqDiff, Nat.reduceAdd, Nat.reduceMul, Nat.reduceSub, Nat.reduceLeDiff, Nat.reduceLT, reduceCtorEq]
  cases v with
  | false =>
    refine aw_if rfl (fun h => ?_) (fun h => by cases h)
    refine aw_exit ?_  -- 5
    refine ⟨⟨⟨Kc, turned, todo.erase j, some j, H3⟩, hSF, hi1, hr3, hRc, hks, hc1, hc2, fun ht => ⟨(hc3 ht).1, fun i hi hn hv => ?_⟩⟩, hlen, ?_, sub_rfl⟩
    · rcases hout i hn with rfl | hn
      · rw [hKj ht (hc3 ht).1 hi] at hv; cases hv
      · exact (hc3 ht).2 i hi hn hv
    · simp only [go_sem, reduceIte, Nat.reduceEqDiff, Nat.reduceAdd, Nat.reduceMul, Nat.reduceSub, Nat.reduceLeDiff, Nat.reduceLT, reduceCtorEq]
  | true =>
  refine aw_if rfl (fun h => by cases h) (fun h => ?_)
  refine aw_skip (hK9 _ _ ?_)
  clear hgj
  have hin : sm.look Kc n ≠ none := by rw [hlkj]; simp
  obtain ⟨d, hd⟩ := Option.isSome_iff_exists.1 (hRc.old n hin)
  obtain ⟨e, he⟩ := Option.isSome_iff_exists.1 (hRc.new n hlkj)
  have hok : ∀ T, okD p q T n = datF T d e := fun T => by rw [okD, hd, he]
  have od := hp.2.2 d (List.mem_of_find?_eq_some hd)
  have oe := hq.2.2 e (List.mem_of_find?_eq_some he)
  have h4 := hSF.h4
  have h5 := hSF.h5
  simp only [e29] at h4 h5
  refine aw_mid (fun f' G' => ∃ b15 b16, FSub [(4, .ptr b4 0), (5, .ptr b5 0), (6, .ptr b6 0), (7, .ptr b7 0), (9, .map b19), (12, .bool turned), (13, .str n), (15, .ptr b15 0), (16, .ptr b16 0), (38, .ptr i1 0)] f' ∧ Sub H3 G' ∧ hget G' b15 = some (.vars (eData d)) ∧ hget G' b16 = some (.vars (eData e))) ?_ ?_
  · have hdo1 := q_dataOf p n hp.2.1
    have hdo2 := q_dataOf q n hq.2.1
    simp only [e29] at hdo1 hdo2
    obtain ⟨i1d, hi1d, e11, e12⟩ : ∃ i, ∃ h : i < p.2.2.2.1.1.length, d = p.2.2.2.1.1[i] ∧ p.2.2.2.1.1.findIdx? (fun d => decide (d.1 = n)) = some i := by
      rcases dataF_ix p n with ⟨e1, _⟩ | ⟨j, hj, e1, e2⟩
      · rw [hd] at e1; cases e1
      · rw [hd] at e1; exact ⟨j, hj, Option.some.inj e1, e2⟩
    obtain ⟨i2d, hi2d, e21, e22⟩ : ∃ i, ∃ h : i < q.2.2.2.1.1.length, e = q.2.2.2.1.1[i] ∧ q.2.2.2.1.1.findIdx? (fun d => decide (d.1 = n)) = some i := by
      rcases dataF_ix q n with ⟨e1, _⟩ | ⟨j, hj, e1, e2⟩
      · rw [he] at e1; cases e1
      · rw [he] at e1; exact ⟨j, hj, Option.some.inj e1, e2⟩
    rw [e12] at hdo1
    rw [e22] at hdo2
    simp only [ixI] at hdo1 hdo2
    have hw1 : wid 3 (p.2.2.2.1.1.map eData) := wid_map (g := eData) (fun _ => rfl) _
    have hw2 : wid 3 (q.2.2.2.1.1.map eData) := wid_map (g := eData) (fun _ => rfl) _
    refine aw_rgt [(0,true),(1,true),(2,true),(3,true),(4,true),(5,true),(6,true),(7,true),(8,false),(9,true),(10,true),(11,true),(12,true),(13,false),(14,false),(15,false),(16,false),(17,false)]
      (.fork3 [(0,true),(1,true),(2,true),(3,true),(4,true),(5,true),(6,true),(7,true),(9,true),(10,true),(11,true)] 8 14 15 (.fork3 [(12,true)] 13 14 15 (.fork2 [] 14 15 (.leaf [(15,false),(16,false),(17,false)]) (.leaf [(14,false),(16,false),(17,false)])) (.fork2 [] 13 15 (.leaf [(15,false),(16,false),(17,false)]) (.fork2 [] 13 16 (.leaf [(16,false),(17,false)]) (.leaf [(13,false),(17,false)]))) (.fork2 [] 13 14 (.leaf [(14,false),(16,false),(17,false)]) (.fork2 [] 13 16 (.leaf [(16,false),(17,false)]) (.leaf [(13,false),(17,false)])))) (.fork2 [] 8 15 (.fork2 [(12,true)] 13 15 (.leaf [(15,false),(16,false),(17,false)]) (.fork2 [] 13 16 (.leaf [(16,false),(17,false)]) (.leaf [(13,false),(17,false)]))) (.fork2 [] 8 16 (.fork2 [(12,true)] 13 16 (.leaf [(16,false),(17,false)]) (.leaf [(13,false),(17,false)])) (.leaf [(8,false),(12,true),(13,false),(17,false)]))) (.fork2 [] 8 14 (.fork2 [(12,true)] 13 14 (.leaf [(14,false),(16,false),(17,false)]) (.fork2 [] 13 16 (.leaf [(16,false),(17,false)]) (.leaf [(13,false),(17,false)]))) (.fork2 [] 8 16 (.fork2 [(12,true)] 13 16 (.leaf [(16,false),(17,false)]) (.leaf [(13,false),(17,false)])) (.leaf [(8,false),(12,true),(13,false),(17,false)])))) mixed rfl (by kernel_rfl) ?_  -- r14
    have q1 : 0 ≤ (i1d : Int) ∧ (i1d : Int) < (p.2.2.2.1.1.length : Int) := ⟨by omega, by omega⟩
    have q2 : 0 ≤ (i2d : Int) ∧ (i2d : Int) < (q.2.2.2.1.1.length : Int) := ⟨by omega, by omega⟩
    simp only [go_sem, reduceIte, Nat.reduceEqDiff, Nat.reduceAdd, Nat.reduceMul, Nat.reduceSub, Nat.reduceLeDiff, Nat.reduceLT, reduceCtorEq, goTr, h4, h5]
    refine goQ_by hdo1 ?_
    simp only [go_sem, reduceIte, Nat.reduceEqDiff, Nat.reduceAdd, Nat.reduceMul, Nat.reduceSub, Nat.reduceLeDiff, Nat.reduceLT, reduceCtorEq, goTr, h4, h5, getD_map hi1d, e194]
    refine ⟨⟨by omega, by omega, hw1⟩, ?_⟩
    refine goQ_by hdo2 ?_
    simp only [go_sem, reduceIte, Nat.reduceEqDiff, Nat.reduceAdd, Nat.reduceMul, Nat.reduceSub, Nat.reduceLeDiff, Nat.reduceLT, reduceCtorEq, goTr, h4, h5, getD_map hi2d, e194]
    rw [e11, e21]
    repeat' first
      | exact hw1
      | exact hw2
      | omega
      | (intro bq hbq
         obtain ⟨n3, hbq'⟩ := fresh_cons hbq
         have n3' : ¬ bp = bq := fun e => n3 (Eq.symm e)
         have n2 := ne_fresh h5 hbq'
         have n2' : ¬ bq = b5 := fun e => n2 (Eq.symm e)
         simp only [go_sem, reduceIte, Nat.reduceEqDiff, Nat.reduceAdd, Nat.reduceMul, Nat.reduceSub, Nat.reduceLeDiff, Nat.reduceLT, reduceCtorEq, goTr, h5, getD_map hi2d, e194, hget_cons, sm.hset_cons, n1, n1', n2, n2', n3, n3'])
      | (intro bp hbp
         have n1 := ne_fresh h5 hbp
         have n1' : ¬ bp = b5 := fun e => n1 (Eq.symm e)
         have k5 : hget ((bp, AObj.vars [.str [], .sl [] true .full, .sl [] true .full]) :: H3) b5 = _ := sub_tail hbp _ _ h5
         try simp only [go_sem, reduceIte, Nat.reduceEqDiff, Nat.reduceAdd, Nat.reduceMul, Nat.reduceSub, Nat.reduceLeDiff, Nat.reduceLT, reduceCtorEq, goTr, k5, getD_map hi2d, e194])
      | (refine ⟨_, _, ⟨rfl, rfl, rfl, rfl, rfl, rfl, rfl, rfl, rfl, rfl⟩, sub_fresh hbq' (sub_tail hbp), ?_, ?_⟩ <;> simp [hget_cons, n3, n3'])
      | refine And.intro ?_ ?_
  intro f' G1 ⟨b15, b16, hf, hs1, h15, h16⟩
  refine AW.of_fsub hf ?_
  clear hf h4 h5
  replace hSF := hSF.up hs1
  replace hi1 := hs1 _ _ hi1
  replace hr3 := hs1 _ _ hr3
  clear hs1
  have hmap : MapO Kc (.mapr (Kc.map kvB) i1 (todo.erase j) (some j)) := .inr ⟨_, _, _, rfl⟩
  rw [eData_eq] at h15 h16
  have hdl : d.2.2.1.length ≤ 1048576 := od.2.2.2.1
  have hlb : ∀ ok : Bool, (decide (d.2.1.1.length = e.2.1.1.length) && decide (d.2.2.1.length = e.2.2.1.length)) = ok → ok = false → datF (tr Kc) d e = false := fun ok h1 h2 => by
    rw [h2] at h1
    rw [datF]
    by_cases e1 : d.2.1.1.length = e.2.1.1.length
    · by_cases e2 : d.2.2.1.length = e.2.2.1.length
      · rw [decide_eq_true e1, decide_eq_true e2] at h1; cases h1
      · rw [maksF_len e2, Bool.and_false]
    · rw [decide_eq_false e1]; rfl
  refine aw_sr rfl ?_  -- r15 @picks.go:344
  simp only [go_sem, reduceIte, Nat.reduceEqDiff, Nat.reduceAdd, Nat.reduceMul, Nat.reduceSub, Nat.reduceLeDiff, Nat.reduceLT, reduceCtorEq, h15, h16, List.length_map, Int.natCast_inj]
  generalize hLb : (decide (d.2.1.1.length = e.2.1.1.length) && decide (d.2.2.1.length = e.2.2.1.length)) = Lb at hlb
  refine aw_mid (fun f' G' => FSub [(4, .ptr b4 0), (5, .ptr b5 0), (6, .ptr b6 0), (7, .ptr b7 0), (9, .map b19), (12, .bool turned), (13, .str n), (17, .bool (datF (tr Kc) d e)), (38, .ptr i1 0)] f' ∧ G' = G1) ?_ ?_
  · refine aw_sr rfl ?_  -- r16 @picks.go:345
    simp only [go_sem, reduceIte, Nat.reduceEqDiff, Nat.reduceAdd, Nat.reduceMul, Nat.reduceSub, Nat.reduceLeDiff, Nat.reduceLT, reduceCtorEq]
    refine aw_block ?_  -- 6
    refine aw_lph (S := {s : Nat × Bool // s.1 ≤ d.2.2.1.length ∧ s.2 = (Lb && maksF (tr Kc) d.2.1.1 e.2.1.1 (d.2.2.1.take s.1) (e.2.2.1.take s.1))}) (fun s => [(4, .ptr b4 0), (5, .ptr b5 0), (6, .ptr b6 0), (7, .ptr b7 0), (9, .map b19), (12, .bool turned), (13, .str n), (15, .ptr b15 0), (16, .ptr b16 0), (17, .bool s.1.2), (18, .int .i64 ((s.1.1 : Nat) : Int)), (38, .ptr i1 0)]) (fun _ => G1) (fun s => d.2.2.1.length - s.1.1) ⟨(0, Lb), Nat.zero_le _, by simp [maksF]⟩ ?_ (fun _ _ h => h) ?_
    · simp only [go_sem, reduceIte, Nat.reduceEqDiff, Nat.reduceAdd, Nat.reduceMul, Nat.reduceSub, Nat.reduceLeDiff, Nat.reduceLT, reduceCtorEq, Int.natCast_zero]
    intro ⟨⟨k, ok⟩, hk1, hk2⟩
    simp only at hk1 hk2 ⊢
    refine aw_seq fun K11 hK11 => ?_
    refine aw_sr rfl ?_  -- r17 @picks.go:345
    cases ok with
    | false =>
      simp only [go_sem, reduceIte, Nat.reduceEqDiff, Nat.reduceAdd, Nat.reduceMul, Nat.reduceSub, Nat.reduceLeDiff, Nat.reduceLT, reduceCtorEq, h15, List.length_map, true_imp_iff, false_imp_iff, Bool.false_eq_true]
      repeat' first
        | (refine sm.goG_off fun v => ?_
           simp only [go_sem, reduceIte, Nat.reduceEqDiff, Nat.reduceAdd, Nat.reduceMul, Nat.reduceSub, Nat.reduceLeDiff, Nat.reduceLT, reduceCtorEq, h15, List.length_map, true_imp_iff, false_imp_iff, Bool.false_eq_true])
      refine aw_if rfl (fun h => by cases h) (fun h => ?_)
      refine aw_exit ?_  -- 6
      have hda : datF (tr Kc) d e = false := by
        cases Lb with
        | false => exact hlb false rfl rfl
        | true =>
          rw [Bool.true_and] at hk2
          cases hm : maksF (tr Kc) d.2.1.1 e.2.1.1 d.2.2.1 e.2.2.1 with
          | false => rw [datF, hm, Bool.and_false]
          | true => rw [maksF_take1 k hm] at hk2; cases hk2
      rw [hda]
      exact ⟨⟨rfl, rfl, rfl, rfl, rfl, rfl, rfl, rfl, rfl⟩, rfl⟩
    | true =>
    have hLt : Lb = true := by cases Lb with | true => rfl | false => cases hk2
    rw [hLt] at hLb hk2
    rw [Bool.true_and] at hk2
    rw [Bool.and_eq_true, decide_eq_true_eq, decide_eq_true_eq] at hLb
    by_cases hkl : k < d.2.2.1.length
    · have dk : decide ((k : Int) < (d.2.2.1.length : Int)) = true := decide_eq_true (by omega)
      have hkl2 : k < e.2.2.1.length := by omega
      simp only [go_sem, reduceIte, Nat.reduceEqDiff, Nat.reduceAdd, Nat.reduceMul, Nat.reduceSub, Nat.reduceLeDiff, Nat.reduceLT, reduceCtorEq, h15, List.length_map, dk, true_imp_iff]
      refine aw_if rfl (fun h => ?_) (fun h => by cases h)
      refine aw_skip (hK11 _ _ ?_)
      refine aw_seq fun K12 hK12 => ?_
      refine aw_block ?_  -- 7
      have om := od.2.2.2.2 _ (List.getElem_mem hkl)
      have htk := maksF_take (al := tr Kc) (x := d.2.1.1) (y := e.2.1.1) hkl hkl2
      rw [← hk2, Bool.true_and] at htk
      have hw1 : wid 2 (d.2.2.1.map eMake) := wid_map (g := eMake) (fun _ => rfl) _
      have hw2 : wid 2 (e.2.2.1.map eMake) := wid_map (g := eMake) (fun _ => rfl) _
      have hta := q_typesAlike hmap _ d.2.2.1[k].2.1 e.2.2.1[k].2.1 d.2.1 e.2.1 d.2.2.1[k].2.2 e.2.2.1[k].2.2 .no .no .no .no (Nat.le_refl _) om.2.2.2 om.2.len od.2.1.2.1 hLb.1 (m := b19)
      refine aw_rgd [(0,true),(1,true),(2,true),(3,true),(4,true),(5,true),(6,true),(7,true),(8,true),(9,true),(10,true),(11,true),(12,true),(13,true),(14,true),(15,true),(16,true),(17,true),(18,true),(19,true),(20,true),(21,true),(22,true),(23,true),(24,true),(25,true),(26,true),(27,true),(28,true),(29,true),(30,true),(31,true),(32,true),(33,true)] mixed rfl (by kernel_rfl) ?_  -- r19
      simp only [go_sem, reduceIte, Nat.reduceEqDiff, Nat.reduceAdd, Nat.reduceMul, Nat.reduceSub, Nat.reduceLeDiff, Nat.reduceLT, reduceCtorEq, h15, h16, getD_map hkl, getD_map hkl2, e196]
      refine ⟨⟨by omega, by omega, hw1⟩, ⟨by omega, by omega, hw2⟩, fun _ => ⟨by omega, by omega, hw1⟩, fun _ => ⟨by omega, by omega, hw2⟩, ?_⟩
      refine goQg_on (fun hg => qonO hta hr3 hmap.not_top) ?_
      simp only [go_sem, reduceIte, Nat.reduceEqDiff, Nat.reduceAdd, Nat.reduceMul, Nat.reduceSub, Nat.reduceLeDiff, Nat.reduceLT, reduceCtorEq]
      refine hK12 _ _ ?_
      refine aw_rg rfl ?_  -- r18 @picks.go:345
      simp only [go_sem, reduceIte, Nat.reduceEqDiff, Nat.reduceAdd, Nat.reduceMul, Nat.reduceSub, Nat.reduceLeDiff, Nat.reduceLT, reduceCtorEq, wrap64 (show -9223372036854775808 ≤ (k : Int) + 1 by omega) (show (k : Int) + 1 ≤ 9223372036854775807 by omega)]
      refine ⟨⟨(k + 1, makF (tr Kc) d.2.1.1 e.2.1.1 d.2.2.1[k] e.2.2.1[k]), by simp only; omega, ?_⟩, by simp only; omega, ?_, sub_rfl⟩
      · simp only
        rw [htk, hLt]; rfl
      · simp only [go_sem, reduceIte, Nat.reduceEqDiff, Nat.reduceAdd, Nat.reduceMul, Nat.reduceSub, Nat.reduceLeDiff, Nat.reduceLT, reduceCtorEq, makF]
        rw [Int.natCast_succ]
    · have dk : decide ((k : Int) < (d.2.2.1.length : Int)) = false := decide_eq_false (by omega)
      simp only [go_sem, reduceIte, Nat.reduceEqDiff, Nat.reduceAdd, Nat.reduceMul, Nat.reduceSub, Nat.reduceLeDiff, Nat.reduceLT, reduceCtorEq, h15, List.length_map, dk, true_imp_iff]
      refine aw_if rfl (fun h => by cases h) (fun h => ?_)
      refine aw_exit ?_  -- 6
      have hke : k = d.2.2.1.length := by omega
      have hda : datF (tr Kc) d e = true := by
        rw [hke, List.take_length, hLb.2, List.take_length] at hk2
        rw [datF, ← hk2, decide_eq_true hLb.1]; rfl
      rw [hda]
      exact ⟨⟨rfl, rfl, rfl, rfl, rfl, rfl, rfl, rfl, rfl⟩, rfl⟩
  intro f' G' ⟨hf, hg⟩
  rw [hg]
  refine AW.of_fsub hf ?_
  clear hf hg
  refine aw_sr rfl ?_  -- r20 @picks.go:348
  simp only [go_sem, reduceIte, Nat.reduceEqDiff, Nat.reduceAdd, Nat.reduceMul, Nat.reduceSub, Nat.reduceLeDiff, Nat.reduceLT, reduceCtorEq]
  cases hda : datF (tr Kc) d e with
  | false =>
    have hbig : big p q n = false := by
      cases hb : big p q n with
      | false => rfl
      | true =>
        have := okD_mono hRc.le (big_post p q n hb)
        rw [hok, hda] at this; cases this
    obtain ⟨jj, hjj, hf, hpt⟩ := put_at n false Kc 0 hin
    rw [Nat.zero_add] at hf
    have hcnt := cnt_put n hlkj
    refine aw_if rfl (fun h => ?_) (fun h => by cases h)
    refine aw_sr rfl ?_  -- r21 @picks.go:349
    simp only [go_sem, reduceIte, Nat.reduceEqDiff, Nat.reduceAdd, Nat.reduceMul, Nat.reduceSub, Nat.reduceLeDiff, Nat.reduceLT, reduceCtorEq, hr3, hf, hpt]
    refine aw_rg rfl ?_  -- r22 @picks.go:350
    simp only [go_sem, reduceIte, Nat.reduceEqDiff, Nat.reduceAdd, Nat.reduceMul, Nat.reduceSub, Nat.reduceLeDiff, Nat.reduceLT, reduceCtorEq]
    refine ⟨⟨⟨putK Kc n false, true, todo.erase j, some j, _⟩, hSF.fr fr_hset hr3 (fun _ e => by cases e) n19, hset_keep hi1 n119, hget_hset_self hr3, hRc.put hin hbig, (put_same n false hin).trans hks, (by simp only; omega), fun _ => (by simp only; omega), fun e => (by cases e)⟩, hlen, ?_, sub_rfl⟩
    simp only [go_sem, reduceIte, Nat.reduceEqDiff, Nat.reduceAdd, Nat.reduceMul, Nat.reduceSub, Nat.reduceLeDiff, Nat.reduceLT, reduceCtorEq]
  | true =>
    refine aw_if rfl (fun h => by cases h) (fun h => ?_)
    refine aw_skip ⟨⟨⟨Kc, turned, todo.erase j, some j, G1⟩, hSF, hi1, hr3, hRc, hks, hc1, hc2, fun ht => ⟨(hc3 ht).1, fun i hi hn hv => ?_⟩⟩, hlen, ?_, sub_rfl⟩
    · rcases hout i hn with rfl | hn
      · have h1 := (hc3 ht).1
        rw [hKj ht h1 hi]
        rw [← h1, hok]; exact hda
      · exact (hc3 ht).2 i hi hn hv
    · simp only [go_sem, reduceIte, Nat.reduceEqDiff, Nat.reduceAdd, Nat.reduceMul, Nat.reduceSub, Nat.reduceLeDiff, Nat.reduceLT, reduceCtorEq]
end Go.Proofs.Ytclmcpbanaojfaa

/- Actors of a program, types copied, types compared: what the law asks beside. -/
set_option linter.unusedSimpArgs false
set_option linter.unusedVariables false
namespace Go.Proofs.Ytclmcpbanaojfaa
open Go.Proofs.YtclmcpbanaojfaaV
set_option maxHeartbeats 4000000
set_option maxRecDepth 100000
abbrev Acr := D42
abbrev eAcr := e42
theorem q_IndexAcr (H0 : Heap) (F : FuncId) (us ws : List V) (f : Acr → Bool) (xs : List Acr) (nl : Bool) (t : Tag) (hx : (xs.length : Int) ≤ 9223372036854775807)
    (hF : ∀ a ∈ xs, QuietOn Try.prog H0 F (us ++ [.agg (eAcr a)] ++ ws) (.bool (f a))) :
    QuietOn Try.prog H0 16 [.sl (xs.map eAcr) nl t, .func (.func F) us ws] (.int .i64 (ixI (xs.findIdx? f))) := by
  intro G hG
  refine acall_body (rs := [.tmp 4]) Try.func16 rfl rfl Try.ntmps16 (by kernel_rfl) (Nat.le_of_ble_eq_true rfl) ?_
  refine aw_sr rfl ?_
  simp only [go_sem, reduceIte, Nat.reduceEqDiff, Nat.reduceAdd, Nat.reduceMul, Nat.reduceSub, Nat.reduceLeDiff, Nat.reduceLT, reduceCtorEq]
  refine aw_seq fun K1 hK1 => ?_
  refine aw_sr rfl ?_
  simp only [go_sem, reduceIte, Nat.reduceEqDiff, Nat.reduceAdd, Nat.reduceMul, Nat.reduceSub, Nat.reduceLeDiff, Nat.reduceLT, reduceCtorEq]
  refine aw_range xs.length (S := {H : Heap // H = G}) (fun _ _ => [(0, .sl (xs.map eAcr) nl t), (1, .func (.func F) us ws)]) (fun _ s => s.1) (fun i _ => ∀ j (h : j < xs.length), j < i → f xs[j] = false) ⟨G, rfl⟩ hx ?_ (fun _ _ h => h) (fun j _ h => absurd h (by omega)) rfl (fun _ _ => rfl) ?_ ?_ (by decide)
  · simp only [go_sem, reduceIte, Nat.reduceEqDiff, Nat.reduceAdd, Nat.reduceMul, Nat.reduceSub, Nat.reduceLeDiff, Nat.reduceLT, reduceCtorEq, Int.natCast_zero]
  · intro i ⟨H, hH⟩ hi he
    subst hH
    refine aw_sr rfl ?_
    simp only [go_sem, reduceIte, Nat.reduceEqDiff, Nat.reduceAdd, Nat.reduceMul, Nat.reduceSub, Nat.reduceLeDiff, Nat.reduceLT, reduceCtorEq]
    refine aw_sr rfl ?_
    simp only [go_sem, reduceIte, Nat.reduceEqDiff, Nat.reduceAdd, Nat.reduceMul, Nat.reduceSub, Nat.reduceLeDiff, Nat.reduceLT, reduceCtorEq, getD_map hi, e42]
    refine ⟨⟨by omega, by omega, wid_map (g := eAcr) (fun _ => by simp [e42]) _⟩, ?_⟩
    have hq := hF _ (List.getElem_mem hi)
    refine goA_on hq hG ?_
    simp only [go_sem, reduceIte, Nat.reduceEqDiff, Nat.reduceAdd, Nat.reduceMul, Nat.reduceSub, Nat.reduceLeDiff, Nat.reduceLT, reduceCtorEq]
    refine aw_if rfl (fun h => ?_) (fun h => ?_)
    · refine aw_sr rfl ?_
      simp only [go_sem, reduceIte, Nat.reduceEqDiff, Nat.reduceAdd, Nat.reduceMul, Nat.reduceSub, Nat.reduceLeDiff, Nat.reduceLT, reduceCtorEq]
      refine aw_ret ⟨trivial, _, rfl, ?_, rfl⟩
      rw [ixI_at hi h (fun j hj => he j (by omega) hj)]
      rfl
    · refine aw_skip ⟨⟨H, rfl⟩, fun j hj hlt => ?_, ?_, fun _ _ h => h⟩
      · by_cases e : j = i
        · subst e; exact h
        · exact he j hj (by omega)
      simp only [go_sem, reduceIte, Nat.reduceEqDiff, Nat.reduceAdd, Nat.reduceMul, Nat.reduceSub, Nat.reduceLeDiff, Nat.reduceLT, reduceCtorEq]
  · intro ⟨H, hH⟩ he
    subst hH
    refine hK1 _ _ ?_
    refine aw_sr rfl ?_
    simp only [go_sem, reduceIte, Nat.reduceEqDiff, Nat.reduceAdd, Nat.reduceMul, Nat.reduceSub, Nat.reduceLeDiff, Nat.reduceLT, reduceCtorEq]
    refine aw_ret ⟨trivial, _, rfl, ?_, rfl⟩
    rw [ixI_none (fun j hj => he j hj hj)]
    rfl
theorem q_EqNms (xs ys : List (List UInt8)) (n1 n2 : Bool) (t1 t2 : Tag) (hx : (xs.length : Int) ≤ 9223372036854775807) : Quiet Try.prog 19 [.sl (xs.map eNm) n1 t1, .sl (ys.map eNm) n2 t2] (.bool (decide (xs = ys))) := by
  intro G
  refine acall_body (rs := [.tmp 4]) Try.func19 rfl rfl Try.ntmps19 (by kernel_rfl) (Nat.le_of_ble_eq_true rfl) ?_
  refine aw_sr rfl ?_
  simp only [go_sem, reduceIte, Nat.reduceEqDiff, Nat.reduceAdd, Nat.reduceMul, Nat.reduceSub, Nat.reduceLeDiff, Nat.reduceLT, reduceCtorEq]
  refine aw_seq fun K2 hK2 => ?_
  refine aw_sr rfl ?_
  simp only [go_sem, reduceIte, Nat.reduceEqDiff, Nat.reduceAdd, Nat.reduceMul, Nat.reduceSub, Nat.reduceLeDiff, Nat.reduceLT, reduceCtorEq]
  refine aw_if rfl (fun h => ?_) (fun h => ?_)
  · refine aw_sr rfl ?_
    simp only [go_sem, reduceIte, Nat.reduceEqDiff, Nat.reduceAdd, Nat.reduceMul, Nat.reduceSub, Nat.reduceLeDiff, Nat.reduceLT, reduceCtorEq]
    refine aw_ret ⟨trivial, _, rfl, ?_⟩
    simp only [decide_eq_true_eq, ne_eq, Int.natCast_inj] at h
    refine ⟨?_, rfl⟩
    rw [decide_eq_false (fun e => h (by rw [e]))]
    rfl
  · refine aw_skip (hK2 _ _ ?_)
    have hl : xs.length = ys.length := by simpa [Int.natCast_inj] using h
    refine aw_seq fun K3 hK3 => ?_
    refine aw_sr rfl ?_
    simp only [go_sem, reduceIte, Nat.reduceEqDiff, Nat.reduceAdd, Nat.reduceMul, Nat.reduceSub, Nat.reduceLeDiff, Nat.reduceLT, reduceCtorEq]
    refine aw_range xs.length (S := Unit) (fun _ _ => [(0, .sl (xs.map eNm) n1 t1), (1, .sl (ys.map eNm) n2 t2)]) (fun _ _ => G) (fun i _ => xs.take i = ys.take i) () hx ?_ (fun _ _ h => h) rfl rfl (fun _ _ => rfl) ?_ ?_ (by decide)
    · simp only [go_sem, reduceIte, Nat.reduceEqDiff, Nat.reduceAdd, Nat.reduceMul, Nat.reduceSub, Nat.reduceLeDiff, Nat.reduceLT, reduceCtorEq]
    · intro i _ hi he
      refine aw_sr rfl ?_
      simp only [go_sem, reduceIte, Nat.reduceEqDiff, Nat.reduceAdd, Nat.reduceMul, Nat.reduceSub, Nat.reduceLeDiff, Nat.reduceLT, reduceCtorEq]
      refine aw_srd [(0,true),(1,true),(2,true),(3,true),(4,true),(5,true),(6,true),(7,true),(8,true)] mixed rfl (by kernel_rfl) ?_
      simp only [go_sem, reduceIte, Nat.reduceEqDiff, Nat.reduceAdd, Nat.reduceMul, Nat.reduceSub, Nat.reduceLeDiff, Nat.reduceLT, reduceCtorEq, getD_map hi, getD_map (hl ▸ hi), eNm]
      refine ⟨⟨by omega, by omega, wid_map (g := eNm) (fun _ => rfl) _⟩, ⟨by omega, by omega, wid_map (g := eNm) (fun _ => rfl) _⟩, ?_⟩
      refine aw_if rfl (fun h => ?_) (fun h => ?_)
      · refine aw_sr rfl ?_
        simp only [go_sem, reduceIte, Nat.reduceEqDiff, Nat.reduceAdd, Nat.reduceMul, Nat.reduceSub, Nat.reduceLeDiff, Nat.reduceLT, reduceCtorEq]
        refine aw_ret ⟨trivial, _, rfl, ?_⟩
        refine ⟨?_, rfl⟩
        have h : ¬ xs[i] = ys[i]'(hl ▸ hi) := by simpa using h
        rw [decide_eq_false (fun e => h (by subst e; rfl))]
        rfl
      · have h : xs[i] = ys[i]'(hl ▸ hi) := by simpa using h
        refine aw_skip ⟨(), ?_, ?_, fun _ _ h => h⟩
        · rw [List.take_succ_eq_append_getElem hi, List.take_succ_eq_append_getElem (hl ▸ hi), he, h]
        · simp only [go_sem, reduceIte, Nat.reduceEqDiff, Nat.reduceAdd, Nat.reduceMul, Nat.reduceSub, Nat.reduceLeDiff, Nat.reduceLT, reduceCtorEq]
    · intro _ he
      refine hK3 _ _ ?_
      refine aw_sr rfl ?_
      simp only [go_sem, reduceIte, Nat.reduceEqDiff, Nat.reduceAdd, Nat.reduceMul, Nat.reduceSub, Nat.reduceLeDiff, Nat.reduceLT, reduceCtorEq]
      refine aw_ret ⟨trivial, _, rfl, ?_⟩
      rw [List.take_length, hl, List.take_length] at he
      subst he
      rw [decide_eq_true rfl]
      exact ⟨rfl, rfl⟩
inductive Eqv : Ex → Ex → Prop
  | mk {x y : Ex} (hk : x.kind = y.kind) (hn : x.num = y.num) (ht : x.text = y.text) (hnm : x.names.1 = y.names.1) (hty : x.types.1 = y.types.1) (hl : x.args.length = y.args.length) (ha : ∀ i (h1 : i < x.args.length) (h2 : i < y.args.length), Eqv x.args[i] y.args[i]) (hml : x.arms.length = y.arms.length) (hp : ∀ i (h1 : i < x.arms.length) (h2 : i < y.arms.length), x.arms[i].pat = y.arms[i].pat) (hm : ∀ i (h1 : i < x.arms.length) (h2 : i < y.arms.length), Eqv x.arms[i].body y.arms[i].body) : Eqv x y
namespace sm
theorem wid_eAcr (l : List Acr) : wid 14 (l.map eAcr) := wid_map (g := eAcr) (fun _ => rfl) _
mutual
def cpT : Typ → Typ | .mk k n ar nl => .mk k n (cpTs ar) ar.isEmpty
def cpTs : List Typ → List Typ | [] => [] | v :: vs => cpT v :: cpTs vs
end
theorem cpTs_map : ∀ l, cpTs l = l.map cpT
  | [] => rfl
  | v :: vs => by rw [cpTs, cpTs_map vs]; rfl
theorem cp_eq (t : Typ) : cpT t = .mk t.kind t.name (t.args.map cpT) t.args.isEmpty := by cases t; rw [cpT, cpTs_map]; rfl
theorem cCp (t : Typ) : cTyp (cpT t) = [.int .i64 t.kind, .str t.name, .sl ((t.args.map cpT).map eTyp) t.args.isEmpty .no] := by rw [cp_eq]; rfl
end sm
open sm
theorem q_CloneNm (xs : List N) (nl : Bool) (t : Tag) (hl : xs.length ≤ 1048576) (hnl : nl = true → xs = []) : Quiet Try.prog 89 [.sl (xs.map eNm) nl t] (.sl (xs.map eNm) nl .no) := by
  refine Quiet.weak fun G => ?_
  refine acall_body (rs := [.tmp 2]) Try.func89 rfl rfl Try.ntmps89 (by kernel_rfl) (Nat.le_of_ble_eq_true rfl) ?_
  refine aw_sr rfl ?_
  simp only [go_sem, reduceIte, Nat.reduceEqDiff, Nat.reduceAdd, Nat.reduceMul, Nat.reduceSub, Nat.reduceLeDiff, Nat.reduceLT, reduceCtorEq]
  refine aw_seq fun K1 hK1 => ?_
  refine aw_sr rfl ?_
  simp only [go_sem, reduceIte, Nat.reduceEqDiff, Nat.reduceAdd, Nat.reduceMul, Nat.reduceSub, Nat.reduceLeDiff, Nat.reduceLT, reduceCtorEq]
  refine aw_if rfl (fun h => ?_) (fun h => ?_)
  · refine aw_sr rfl ?_
    simp only [go_sem, reduceIte, Nat.reduceEqDiff, Nat.reduceAdd, Nat.reduceMul, Nat.reduceSub, Nat.reduceLeDiff, Nat.reduceLT, reduceCtorEq]
    refine aw_ret ⟨trivial, _, rfl, ?_, sub_rfl⟩
    rw [hnl h, h]; exact Vle.untag
  refine aw_skip (hK1 _ _ ?_)
  refine aw_sr rfl ?_
  simp only [go_sem, reduceIte, Nat.reduceEqDiff, Nat.reduceAdd, Nat.reduceMul, Nat.reduceSub, Nat.reduceLeDiff, Nat.reduceLT, reduceCtorEq]
  refine goP_rm (G := G) (Rm.start _ _ _) sub_rfl ?_ fun t1 H1 hr1 hs1 hg1 => ?_
  · exact ⟨rfl, rfl, by decide, by simp [wid], wid_eNm' _, sca_map (g := eNm) (fun a x hx => by simp [eNm] at hx; subst hx; rfl) _, by simp; omega, by simp; omega⟩
  simp only [go_sem, reduceIte, Nat.reduceEqDiff, Nat.reduceAdd, Nat.reduceMul, Nat.reduceSub, Nat.reduceLeDiff, Nat.reduceLT, reduceCtorEq]
  refine aw_ret ⟨trivial, _, rfl, ?_, hs1⟩
  have h : nl = false := by simpa using h
  rw [h]
  exact Vle.untag
theorem q_typesC (l : List Typ) (nl : Bool) (t : Tag) (hl : l.length ≤ 1048576) (h : ∀ a ∈ l, Quiet Try.prog 91 [.agg (cTyp a)] (.agg (cTyp (cpT a)))) : Quiet Try.prog 90 [.sl (l.map eTyp) nl t] (.sl ((l.map cpT).map eTyp) l.isEmpty .no) := by
  refine Quiet.weak fun G => ?_
  refine acall_body (rs := [.tmp 2]) Try.func90 rfl rfl Try.ntmps90 (by kernel_rfl) (Nat.le_of_ble_eq_true rfl) ?_
  refine aw_sr rfl ?_  -- r0 @shape.go:237
  simp only [go_sem, reduceIte, Nat.reduceEqDiff, Nat.reduceAdd, Nat.reduceMul, Nat.reduceSub, Nat.reduceLeDiff, Nat.reduceLT, reduceCtorEq]
  refine aw_sr rfl ?_  -- r1 @shape.go:238
  simp only [go_sem, reduceIte, Nat.reduceEqDiff, Nat.reduceAdd, Nat.reduceMul, Nat.reduceSub, Nat.reduceLeDiff, Nat.reduceLT, reduceCtorEq]
  refine aw_seq fun K1 hK1 => ?_
  refine aw_sr rfl ?_  -- r2 @shape.go:239
  simp only [go_sem, reduceIte, Nat.reduceEqDiff, Nat.reduceAdd, Nat.reduceMul, Nat.reduceSub, Nat.reduceLeDiff, Nat.reduceLT, reduceCtorEq]
  refine aw_range l.length (S := Tag × Heap) (fun i s => [(3, .sl (((l.take i).map cpT).map eTyp) (l.take i).isEmpty s.1), (6, .sl (l.map eTyp) nl t)]) (fun _ s => s.2) (fun i s => Rm G s.2 3 s.1 ∧ Sub G s.2) (.full, G) (by omega) ?_ (fun _ _ h => h) ⟨Rm.start _ _ _, sub_rfl⟩ rfl (fun _ _ => rfl) ?_ ?_ (by decide)
  · simp only [go_sem, reduceIte, Nat.reduceEqDiff, Nat.reduceAdd, Nat.reduceMul, Nat.reduceSub, Nat.reduceLeDiff, Nat.reduceLT, reduceCtorEq, Int.natCast_zero, List.take_zero, List.map_nil, List.isEmpty_nil]
  · intro i ⟨t4, H⟩ hi ⟨hr, hs⟩
    simp only at hr hs ⊢
    have htk : l.take (i + 1) = l.take i ++ [l[i]] := List.take_succ_eq_append_getElem hi
    have hq := h _ (List.getElem_mem hi)
    refine aw_sr rfl ?_  -- r4 @shape.go:239
    simp only [go_sem, reduceIte, Nat.reduceEqDiff, Nat.reduceAdd, Nat.reduceMul, Nat.reduceSub, Nat.reduceLeDiff, Nat.reduceLT, reduceCtorEq, getD_map hi, eTyp_eq, cTyp]
    refine ⟨⟨by omega, by omega, wid_eTyp _⟩, ?_⟩
    generalize l[i] = a at htk hq
    intro b5 hb5
    refine aw_box1 hb5 fun B1 hs1 h5 => ?_
    replace hr := hr.sub hs1
    replace hs := sub_trans hs hs1
    refine aw_rg rfl ?_  -- r5 @shape.go:240
    simp only [go_sem, reduceIte, Nat.reduceEqDiff, Nat.reduceAdd, Nat.reduceMul, Nat.reduceSub, Nat.reduceLeDiff, Nat.reduceLT, reduceCtorEq, h5]
    refine goA_q hq ?_
    simp only [go_sem, reduceIte, Nat.reduceEqDiff, Nat.reduceAdd, Nat.reduceMul, Nat.reduceSub, Nat.reduceLeDiff, Nat.reduceLT, reduceCtorEq, cTyp]
    refine goP_rm (G := G) hr hs ?_ fun t6 H6 hr6 hs6 hg6 => ?_
    · exact ⟨rfl, rfl, by decide, wid_eTyp _, wid_one rfl, by simp [sca, scalarV], by simp; omega, by simp; omega⟩
    simp only [go_sem, reduceIte, Nat.reduceEqDiff, Nat.reduceAdd, Nat.reduceMul, Nat.reduceSub, Nat.reduceLeDiff, Nat.reduceLT, reduceCtorEq]
    refine ⟨(t6, H6), ⟨hr6, hs6⟩, ?_, sub_rfl⟩
    have hie : (l.take i ++ [a]).isEmpty = false := by cases l.take i <;> rfl
    rw [htk, hie, List.map_append, List.map_append, List.map_cons, List.map_nil, List.map_cons, List.map_nil, eTyp_eq]
    exact ⟨rfl, rfl, rfl, rfl⟩
  intro ⟨t4, H⟩ ⟨hr, hs⟩
  simp only at hr hs ⊢
  rw [List.take_length]
  refine hK1 _ _ ?_
  refine aw_sr rfl ?_  -- r7 @shape.go:242
  simp only [go_sem, reduceIte, Nat.reduceEqDiff, Nat.reduceAdd, Nat.reduceMul, Nat.reduceSub, Nat.reduceLeDiff, Nat.reduceLT, reduceCtorEq]
  exact aw_ret ⟨trivial, _, rfl, Vle.untag, hs⟩
theorem q_copied : ∀ (n : Nat) (t : Typ), t.sz ≤ n → OkTyp t → Quiet Try.prog 91 [.agg (cTyp t)] (.agg (cTyp (cpT t))) := by
  intro n
  induction n with
  | zero => intro t h; have := t.sz_eq; omega
  | succ n ih =>
  intro t hn ht
  have hT := q_typesC t.args t.nl .no ht.len fun a ha => ih a (by have := Typ.sz_args ha; omega) (ht.arg ha)
  refine Quiet.weak fun G => ?_
  refine acall_body (rs := [.cell 2 32]) Try.func91 rfl rfl Try.ntmps91 (by kernel_rfl) (Nat.le_of_ble_eq_true rfl) ?_
  refine aw_sr rfl ?_  -- r0 @shape.go:232
  simp only [go_sem, reduceIte, Nat.reduceEqDiff, Nat.reduceAdd, Nat.reduceMul, Nat.reduceSub, Nat.reduceLeDiff, Nat.reduceLT, reduceCtorEq]
  intro b1 hb1 b2 hb2
  obtain ⟨_, hb2'⟩ := fresh_cons hb2
  refine aw_box2 hb1 hb2 fun B1 hs1 h1 h2 _ _ => ?_
  refine aw_srd [(0,true),(1,true),(2,true),(3,true),(4,true),(5,true),(6,true),(7,true),(8,false)] mixed rfl (by kernel_rfl) ?_  -- r1 @shape.go:233
  simp only [go_sem, reduceIte, Nat.reduceEqDiff, Nat.reduceAdd, Nat.reduceMul, Nat.reduceSub, Nat.reduceLeDiff, Nat.reduceLT, reduceCtorEq, h1, h2, cTyp]
  refine goQ_by hT ?_
  simp only [go_sem, reduceIte, Nat.reduceEqDiff, Nat.reduceAdd, Nat.reduceMul, Nat.reduceSub, Nat.reduceLeDiff, Nat.reduceLT, reduceCtorEq, h1, h2]
  refine aw_ret ⟨trivial, ?_⟩
  simp only [go_sem, reduceIte, Nat.reduceEqDiff, Nat.reduceAdd, Nat.reduceMul, Nat.reduceSub, Nat.reduceLeDiff, Nat.reduceLT, reduceCtorEq, resL, resOf, hget_hset_self h2]
  refine ⟨_, rfl, ?_, sub_hset_fresh hb2' hs1⟩
  rw [cp_eq]; exact Vle.refl _
/-! ### Types compared -/
theorem q_EqTrueT (F : FuncId) (xs ys : List Typ) (n1 n2 : Bool) (t1 t2 : Tag) (hx : (xs.length : Int) ≤ 9223372036854775807) (hl : xs.length = ys.length) (hF : ∀ i (hi : i < xs.length) (hj : i < ys.length), Quiet Try.prog F [.agg (cTyp xs[i]), .agg (cTyp ys[i])] (.bool true)) :
    Quiet Try.prog 20 [.sl (xs.map eTyp) n1 t1, .sl (ys.map eTyp) n2 t2, .func (.func F) [] []] (.bool true) := by
  refine Quiet.weak fun G => ?_
  refine (a_EqualT F [] [] xs ys n1 n2 t1 t2 (fun _ H => Sub G H) (fun r H => r = true ∧ Sub G H) G hx (fun h => absurd hl h) (fun _ => sub_rfl) (fun _ _ _ h1 h2 => sub_trans h1 h2) (fun i hi hj H hH => ?_) (fun H _ hH => ⟨rfl, hH⟩)).mono fun y H ⟨r, h1, h2, h3⟩ => ⟨by rw [h1, h2]; exact Vle.refl _, h3⟩
  refine (hF i hi hj H).mono fun y H' ⟨h1, h2⟩ => ⟨true, h1, fun _ => by rw [h2]; exact hH, fun e => by cases e⟩
theorem q_sameT : ∀ (n : Nat) (t : Typ), t.sz ≤ n → OkTyp t → Quiet Try.prog 21 [.agg (cTyp (cpT t)), .agg (cTyp t)] (.bool true) := by
  intro n
  induction n with
  | zero => intro t h; have := t.sz_eq; omega
  | succ n ih =>
  intro t hn ht
  have hl := ht.len
  have hE := q_EqTrueT 21 (t.args.map cpT) t.args t.args.isEmpty t.nl .no .no (by rw [List.length_map]; have : t.args.length ≤ 1048576 := hl; omega) (by simp) (fun i hi hj => by rw [List.getElem_map]; exact ih _ (by have := Typ.sz_args (List.getElem_mem hj); omega) (ht.arg (List.getElem_mem hj)))
  refine Quiet.weak fun G => ?_
  refine acall_body (rs := [.tmp 4]) Try.func21 rfl rfl Try.ntmps21 (by kernel_rfl) (Nat.le_of_ble_eq_true rfl) ?_
  refine aw_sr rfl ?_  -- r0 @high.go:128
  simp only [go_sem, reduceIte, Nat.reduceEqDiff, Nat.reduceAdd, Nat.reduceMul, Nat.reduceSub, Nat.reduceLeDiff, Nat.reduceLT, reduceCtorEq, cCp]
  intro b2 hb2 b3 hb3
  refine aw_box2 hb2 hb3 fun B1 hs1 h2 h3 _ _ => ?_
  refine aw_sr rfl ?_  -- r1 @high.go:129
  simp only [go_sem, reduceIte, Nat.reduceEqDiff, Nat.reduceAdd, Nat.reduceMul, Nat.reduceSub, Nat.reduceLeDiff, Nat.reduceLT, reduceCtorEq, h2, h3]
  refine goH_q (fun hg => hE) ?_
  simp only [go_sem, reduceIte, Nat.reduceEqDiff, Nat.reduceAdd, Nat.reduceMul, Nat.reduceSub, Nat.reduceLeDiff, Nat.reduceLT, reduceCtorEq]
  refine aw_ret ⟨trivial, _, rfl, ?_, hs1⟩
  first | exact Vle.refl _ | (simp; exact Vle.refl _)
/-! ### Actors -/
theorem q_Actor1 (a : Acr) (b : Nat) (s : N) : QuietOn Try.prog [(b, .vars [.str s])] 88 ([] ++ [.agg (eAcr a)] ++ [.ptr b 0]) (.bool (decide (a.1 = s))) := by
  refine QuietOn.weak fun G hG => ?_
  have hg : hget G b = some (.vars [.str s]) := hG _ _ (hget_self _ _ _)
  refine acall_body (rs := [.tmp 3]) Try.func88 rfl rfl Try.ntmps88 (by kernel_rfl) (Nat.le_of_ble_eq_true rfl) ?_
  refine aw_sr rfl ?_
  simp only [go_sem, reduceIte, Nat.reduceEqDiff, Nat.reduceAdd, Nat.reduceMul, Nat.reduceSub, Nat.reduceLeDiff, Nat.reduceLT, reduceCtorEq, e42]
  intro b2 hb
  have hne : ¬ b2 = b := by intro e; subst e; rw [hg] at hb; cases hb
  refine aw_sr rfl ?_
  simp only [go_sem, reduceIte, Nat.reduceEqDiff, Nat.reduceAdd, Nat.reduceMul, Nat.reduceSub, Nat.reduceLeDiff, Nat.reduceLT, reduceCtorEq, hne, hg]
  exact aw_ret ⟨trivial, _, rfl, Vle.refl _, hsub_at hb⟩
theorem q_law1 (a x : Acr) (b : Nat) : QuietOn Try.prog [(b, .vars (eAcr x))] 17 ([] ++ [.agg (eAcr a)] ++ [.ptr b 0]) (.bool (decide (a.1 = x.1))) := by
  refine QuietOn.weak fun G hG => ?_
  have hg : hget G b = some (.vars (eAcr x)) := hG _ _ (hget_self _ _ _)
  refine acall_body (rs := [.tmp 3]) Try.func17 rfl rfl Try.ntmps17 (by kernel_rfl) (Nat.le_of_ble_eq_true rfl) ?_
  refine aw_sr rfl ?_
  simp only [go_sem, reduceIte, Nat.reduceEqDiff, Nat.reduceAdd, Nat.reduceMul, Nat.reduceSub, Nat.reduceLeDiff, Nat.reduceLT, reduceCtorEq, e42]
  simp only [e42] at hg
  intro b2 hb
  have hne : ¬ b2 = b := by intro e; subst e; rw [hg] at hb; cases hb
  refine aw_sr rfl ?_
  simp only [go_sem, reduceIte, Nat.reduceEqDiff, Nat.reduceAdd, Nat.reduceMul, Nat.reduceSub, Nat.reduceLeDiff, Nat.reduceLT, reduceCtorEq, hne, hg]
  exact aw_ret ⟨trivial, _, rfl, Vle.refl _, hsub_at hb⟩
namespace sm
def acrF (p : Prgm) (s : N) : Option Acr := p.2.2.2.2.2.2.2.1.find? fun d => decide (d.1 = s)
theorem acrF_ix (p : Prgm) (s : N) : (acrF p s = none ∧ p.2.2.2.2.2.2.2.1.findIdx? (fun d => decide (d.1 = s)) = none) ∨ ∃ i, ∃ h : i < p.2.2.2.2.2.2.2.1.length, acrF p s = some p.2.2.2.2.2.2.2.1[i] ∧ p.2.2.2.2.2.2.2.1.findIdx? (fun d => decide (d.1 = s)) = some i := by
  unfold acrF
  cases h : p.2.2.2.2.2.2.2.1.findIdx? (fun d => decide (d.1 = s)) with
  | none => exact .inl ⟨List.find?_eq_none.2 fun x hx => by rw [List.findIdx?_eq_none_iff.1 h x hx]; simp, rfl⟩
  | some i =>
    obtain ⟨hi, h1, h2⟩ := List.findIdx?_eq_some_iff_getElem.1 h
    exact .inr ⟨i, hi, List.find?_eq_some_iff_getElem.2 ⟨h1, i, hi, rfl, fun j hj => by simpa using h2 j hj⟩, rfl⟩
def actC (z : Acr) : List V := [.str z.1, .sl (z.2.1.1.map eNm) z.2.1.2 .no, .sl ((z.2.2.1.1.map cpT).map eTyp) z.2.2.1.1.isEmpty .no, .int .i64 z.2.2.2.1.kind, .str z.2.2.2.1.name, .sl ((z.2.2.2.1.args.map cpT).map eTyp) z.2.2.2.1.args.isEmpty .no, .int .i64 0, .int .i64 0, .str [], .sl [] true .no, .sl [] true .no, .sl [] true .no, .sl [] true .no, .int .i64 0]
def actZ : List V := [.str [], .sl [] true .no, .sl [] true .no, .int .i64 0, .str [], .sl [] true .no, .int .i64 0, .int .i64 0, .str [], .sl [] true .no, .sl [] true .no, .sl [] true .no, .sl [] true .no, .int .i64 0]
def actV : Option Acr → V
  | some z => .tup [.agg (actC z), .bool true]
  | none => .tup [.agg actZ, .bool false]
end sm
theorem q_Actor (p : Prgm) (s : N) (hp : o27 p.2.2.2.2.2.2.2) : Quiet Try.prog 18 [.agg (cPrg p), .str s] (actV (acrF p s)) := by
  have hpl : p.2.2.2.2.2.2.2.1.length ≤ 1048576 := hp.2.1
  refine Quiet.weak fun G => ?_
  refine acall_body (rs := [.cell 4 42, .tmp 5]) Try.func18 rfl rfl Try.ntmps18 (by kernel_rfl) (Nat.le_of_ble_eq_true rfl) ?_
  refine aw_sr rfl ?_  -- r0 @shape.go:223
  simp only [go_sem, reduceIte, Nat.reduceEqDiff, Nat.reduceAdd, Nat.reduceMul, Nat.reduceSub, Nat.reduceLeDiff, Nat.reduceLT, reduceCtorEq, e29]
  intro b2 hb2 b3 hb3 b4 hb4
  obtain ⟨_, hb4'⟩ := fresh_cons hb4
  obtain ⟨_, hb4''⟩ := fresh_cons hb4'
  refine aw_box3 hb2 hb3 hb4 fun B1 hs1 h2 h3 h4 _ _ _ _ _ _ => ?_
  refine aw_sr rfl ?_  -- r1 @shape.go:224
  simp only [go_sem, reduceIte, Nat.reduceEqDiff, Nat.reduceAdd, Nat.reduceMul, Nat.reduceSub, Nat.reduceLeDiff, Nat.reduceLT, reduceCtorEq, h2, h3]
  refine goA_on (q_IndexAcr [(b3, .vars [.str s])] 88 [] [.ptr b3 0] (fun d => decide (d.1 = s)) p.2.2.2.2.2.2.2.1 p.2.2.2.2.2.2.2.2 .no (by omega) fun d _ => q_Actor1 d b3 s) (sub_one h3) ?_
  simp only [go_sem, reduceIte, Nat.reduceEqDiff, Nat.reduceAdd, Nat.reduceMul, Nat.reduceSub, Nat.reduceLeDiff, Nat.reduceLT, reduceCtorEq]
  refine aw_seq fun K2 hK2 => ?_
  refine aw_sr rfl ?_  -- r2 @shape.go:225
  simp only [go_sem, reduceIte, Nat.reduceEqDiff, Nat.reduceAdd, Nat.reduceMul, Nat.reduceSub, Nat.reduceLeDiff, Nat.reduceLT, reduceCtorEq]
  rcases acrF_ix p s with ⟨e1, e2⟩ | ⟨i, hi, e1, e2⟩
  · rw [e1, e2]
    refine aw_if rfl (fun h => ?_) (fun h => by simp [ixI] at h)
    refine aw_sr rfl ?_  -- r3 @shape.go:226
    simp only [go_sem, reduceIte, Nat.reduceEqDiff, Nat.reduceAdd, Nat.reduceMul, Nat.reduceSub, Nat.reduceLeDiff, Nat.reduceLT, reduceCtorEq, h4]
    refine aw_ret ⟨trivial, ?_⟩
    simp only [go_sem, reduceIte, Nat.reduceEqDiff, Nat.reduceAdd, Nat.reduceMul, Nat.reduceSub, Nat.reduceLeDiff, Nat.reduceLT, reduceCtorEq, resL, resOf, hget_hset_self h4]
    refine ⟨_, rfl, ?_, sub_hset_fresh hb4'' hs1⟩
    rw [actV, actZ]
    exact Vle.tupL (.cons (Vle.aggL (by repeat' first | exact .nil | refine .cons (Vle.refl _) ?_ | refine .cons Vle.untag ?_)) (.cons (Vle.refl _) .nil))
  · rw [e1, e2]
    have oz := hp.2.2 _ (List.getElem_mem hi)
    refine aw_if rfl (fun h => absurd (of_decide_eq_true h) (by simp only [ixI]; omega)) (fun h => ?_)
    refine aw_skip (hK2 _ _ ?_)
    have ozl : p.2.2.2.2.2.2.2.1[i].2.1.1.length ≤ 1048576 := oz.2.1.2.1
    have hT := q_typesC p.2.2.2.2.2.2.2.1[i].2.2.1.1 p.2.2.2.2.2.2.2.1[i].2.2.1.2 .no oz.2.2.1.len fun a ha => q_copied a.sz a (Nat.le_refl _) (oz.2.2.1.2.2 a ha)
    have hM := q_copied p.2.2.2.2.2.2.2.1[i].2.2.2.1.sz p.2.2.2.2.2.2.2.1[i].2.2.2.1 (Nat.le_refl _) oz.2.2.2.1.1
    rw [cCp] at hM
    have hC := q_CloneNm p.2.2.2.2.2.2.2.1[i].2.1.1 p.2.2.2.2.2.2.2.1[i].2.1.2 .no ozl oz.2.1.1
    refine aw_srd [(0,true),(1,true),(2,true),(3,true),(4,true),(5,true),(6,true),(7,true),(8,true),(9,true),(10,true),(11,true),(12,true),(13,true),(14,true),(15,true),(16,true),(17,true),(18,true),(19,true),(20,true),(21,true),(22,true),(23,true),(24,true),(25,true),(26,true),(27,true),(28,false),(29,true)] mixed rfl (by kernel_rfl) ?_  -- r4 @shape.go:228
    simp only [go_sem, reduceIte, Nat.reduceEqDiff, Nat.reduceAdd, Nat.reduceMul, Nat.reduceSub, Nat.reduceLeDiff, Nat.reduceLT, reduceCtorEq, h2, h4, ixI, getD_map hi, e42]
    have hb : 0 ≤ (i : Int) ∧ (i : Int) < (p.2.2.2.2.2.2.2.1.length : Int) := ⟨by omega, by omega⟩
    have hw := wid_eAcr p.2.2.2.2.2.2.2.1
    refine ⟨⟨by omega, by omega, hw⟩, ⟨by omega, by omega, hw⟩, ?_⟩
    refine goQ_by hC ?_
    simp only [go_sem, reduceIte, Nat.reduceEqDiff, Nat.reduceAdd, Nat.reduceMul, Nat.reduceSub, Nat.reduceLeDiff, Nat.reduceLT, reduceCtorEq, h2, h4, ixI, getD_map hi, e42]
    refine ⟨⟨by omega, by omega, hw⟩, ?_⟩
    refine goQ_by hT ?_
    simp only [go_sem, reduceIte, Nat.reduceEqDiff, Nat.reduceAdd, Nat.reduceMul, Nat.reduceSub, Nat.reduceLeDiff, Nat.reduceLT, reduceCtorEq, h2, h4, ixI, getD_map hi, e42]
    refine ⟨⟨by omega, by omega, hw⟩, ?_⟩
    refine goQ_by hM ?_
    simp only [go_sem, reduceIte, Nat.reduceEqDiff, Nat.reduceAdd, Nat.reduceMul, Nat.reduceSub, Nat.reduceLeDiff, Nat.reduceLT, reduceCtorEq, h2, h4]
    refine aw_ret ⟨trivial, ?_⟩
    simp only [go_sem, reduceIte, Nat.reduceEqDiff, Nat.reduceAdd, Nat.reduceMul, Nat.reduceSub, Nat.reduceLeDiff, Nat.reduceLT, reduceCtorEq, resL, resOf, hget_hset_self h4]
    refine ⟨_, rfl, ?_, sub_hset_fresh hb4'' hs1⟩
    rw [e1, actV, actC]
    exact Vle.tupL (.cons (Vle.aggL (by repeat' first | exact .nil | refine .cons (Vle.refl _) ?_ | refine .cons Vle.untag ?_)) (.cons (Vle.refl _) .nil))
end Go.Proofs.Ytclmcpbanaojfaa

set_option linter.unusedSimpArgs false
set_option linter.unusedVariables false
namespace Go.Proofs.Ytclmcpbanaojfaa
open Go.Proofs.YtclmcpbanaojfaaV
set_option maxHeartbeats 400000
set_option maxRecDepth 100000
def nextF (vs : List Val) : List Val := vs.flatMap Val.args
theorem szs_next : ∀ vs, szs (nextF vs) + vs.length = szs vs
  | [] => rfl
  | v :: vs => by
    have := szs_next vs
    have := v.sz_eq
    simp only [nextF, List.flatMap_cons, szs_append, szs, List.length_cons] at *
    omega
theorem szs_take (vs : List Val) (i : Nat) : szs (vs.take i) ≤ szs vs := by
  have := szs_append (vs.take i) (vs.drop i)
  rw [List.take_append_drop] at this
  omega
theorem nextF_take {vs : List Val} {i : Nat} (h : i < vs.length) : nextF (vs.take (i + 1)) = nextF (vs.take i) ++ vs[i].args := by
  rw [List.take_succ_eq_append_getElem h, nextF, List.flatMap_append]; simp [nextF]
theorem nextF_len (vs : List Val) (i : Nat) : (nextF (vs.take i)).length ≤ szs vs := by
  have := szs_len (nextF (vs.take i))
  have := szs_next (vs.take i)
  have := szs_take vs i
  omega
theorem wid_eVal (vs : List Val) : wid 4 (vs.map eVal) := wid_map (g := eVal) (fun _ => by rw [eC]; rfl) _
theorem sca_eVal (vs : List Val) : sca (vs.map eVal) := by
  intro e he x hx
  obtain ⟨u, _, rfl⟩ := List.mem_map.1 he
  rw [eC] at hx
  simp only [cV, List.mem_cons, List.not_mem_nil, or_false] at hx
  rcases hx with rfl | rfl | rfl | rfl <;> rfl
/-- Is a value small, level by level? -/
def smallL : Nat → List Val → Nat → Bool
  | 0, _, _ => false
  | k + 1, now, n => if now = [] then true else if k = 0 ∨ 3000 < n + now.length then false else smallL k (nextF now) (n + now.length)
structure SmS where
  now : List Val
  n : Nat
  deep : Nat
  nl : Bool
  t : Tag
def smallV (v : Val) : Bool := smallL 302 [v] 0
end Go.Proofs.Ytclmcpbanaojfaa

/- ShapeSame: the law, over programs and types as data. -/
set_option linter.unusedSimpArgs false
set_option linter.unusedVariables false
namespace Go.Proofs.Ytclmcpbanaojfaa
open Go.Proofs.YtclmcpbanaojfaaV
set_option maxHeartbeats 4000000
set_option maxRecDepth 100000
theorem q_TypesSmall2 (l : List Typ) (ln : Bool) (tg0 : Tag) (hv : tszs l ≤ 2 * bulk) : QB Try.prog 15 [.sl (l.map eTyp) ln tg0] := by
  refine QB.weak fun G => ?_
  have hv' : tszs l ≤ 2097152 := hv
  have hll := tszs_len l
  refine acall_body (rs := [.tmp 2]) Try.func15 rfl rfl Try.ntmps15 (by kernel_rfl) (Nat.le_of_ble_eq_true rfl) ?_
  refine aw_sr rfl ?_
  simp only [go_sem, reduceIte, Nat.reduceEqDiff, Nat.reduceAdd, Nat.reduceMul, Nat.reduceSub, Nat.reduceLeDiff, Nat.reduceLT, reduceCtorEq]
  refine aw_sr rfl ?_
  simp only [go_sem, reduceIte, Nat.reduceEqDiff, Nat.reduceAdd, Nat.reduceMul, Nat.reduceSub, Nat.reduceLeDiff, Nat.reduceLT, reduceCtorEq]
  refine goP_room (Room.start _ 3) ⟨rfl, rfl, by decide, by simp, wid_eTyp _, sca_eTyp _, by simp; omega, by simp; omega⟩ fun t1 H1 hr1 => ?_
  simp only [go_sem, reduceIte, Nat.reduceEqDiff, Nat.reduceAdd, Nat.reduceMul, Nat.reduceSub, Nat.reduceLeDiff, Nat.reduceLT, reduceCtorEq]
  refine aw_sr rfl ?_
  simp only [go_sem, reduceIte, Nat.reduceEqDiff, Nat.reduceAdd, Nat.reduceMul, Nat.reduceSub, Nat.reduceLeDiff, Nat.reduceLT, reduceCtorEq]
  refine aw_seq fun K1 hK1 => ?_
  refine aw_sr rfl ?_
  simp only [go_sem, reduceIte, Nat.reduceEqDiff, Nat.reduceAdd, Nat.reduceMul, Nat.reduceSub, Nat.reduceLeDiff, Nat.reduceLT, reduceCtorEq]
  refine aw_block ?_
  refine aw_lph (S := {s : SmT // tszs s.now ≤ 2 * bulk ∧ s.n ≤ 1000 ∧ s.deep ≤ 101 ∧ Sub G s.H}) (fun s => [(3, .sl (s.1.now.map eTyp) s.1.nl s.1.t), (4, .int .i64 s.1.n), (5, .int .i64 s.1.deep)]) (fun s => s.1.H) (fun s => 102 - s.1.deep) ⟨⟨l, 0, 0, false && (l.map eTyp).isEmpty, t1, H1⟩, hv, by simp, by simp, hr1.sub⟩ ?_ (fun _ _ h => h) ?_
  · simp only [go_sem, reduceIte, Nat.reduceEqDiff, Nat.reduceAdd, Nat.reduceMul, Nat.reduceSub, Nat.reduceLeDiff, Nat.reduceLT, reduceCtorEq, Int.natCast_zero, List.nil_append]
  · intro ⟨⟨now, n, deep, nl, tg, H⟩, i1, i2, i3, i5⟩
    simp only at i1 i2 i3 i5 ⊢
    have hlen := tszs_len now
    have hb1 : tszs now ≤ 2097152 := i1
    refine aw_seq fun K2 hK2 => ?_
    refine aw_sr rfl ?_
    simp only [go_sem, reduceIte, Nat.reduceEqDiff, Nat.reduceAdd, Nat.reduceMul, Nat.reduceSub, Nat.reduceLeDiff, Nat.reduceLT, reduceCtorEq]
    refine aw_if rfl (fun h => ?_) (fun h => ?_)
    · refine aw_skip (hK2 _ _ ?_)
      refine aw_seq fun K3 hK3 => ?_
      refine aw_block ?_
      refine aw_seq fun K4 hK4 => ?_
      refine aw_sr rfl ?_
      simp only [go_sem, reduceIte, Nat.reduceEqDiff, Nat.reduceAdd, Nat.reduceMul, Nat.reduceSub, Nat.reduceLeDiff, Nat.reduceLT, reduceCtorEq]
      have hw : IntKind.i64.wrap ((n : Int) + (now.length : Int)) = ((n + now.length : Nat) : Int) := by rw [wrap64 (by omega) (by omega)]; simp
      refine aw_sr rfl ?_
      simp only [go_sem, reduceIte, Nat.reduceEqDiff, Nat.reduceAdd, Nat.reduceMul, Nat.reduceSub, Nat.reduceLeDiff, Nat.reduceLT, reduceCtorEq, hw]
      refine aw_if rfl (fun h => ?_) (fun h => ?_)
      · refine aw_sr rfl ?_
        simp only [go_sem, reduceIte, Nat.reduceEqDiff, Nat.reduceAdd, Nat.reduceMul, Nat.reduceSub, Nat.reduceLeDiff, Nat.reduceLT, reduceCtorEq]
        exact aw_ret ⟨trivial, _, rfl, ⟨_, Vle.refl _⟩, i5⟩
      · have hc : ¬ (100 < deep ∨ 1000 < n + now.length) := by
          simp only [Bool.or_eq_false_iff, decide_eq_false_iff_not] at h
          omega
        refine aw_skip (hK4 _ _ ?_)
        refine aw_sr rfl ?_
        simp only [go_sem, reduceIte, Nat.reduceEqDiff, Nat.reduceAdd, Nat.reduceMul, Nat.reduceSub, Nat.reduceLeDiff, Nat.reduceLT, reduceCtorEq]
        refine aw_seq fun K5 hK5 => ?_
        refine aw_sr rfl ?_
        simp only [go_sem, reduceIte, Nat.reduceEqDiff, Nat.reduceAdd, Nat.reduceMul, Nat.reduceSub, Nat.reduceLeDiff, Nat.reduceLT, reduceCtorEq]
        refine aw_range now.length (S := Bool × Tag × Heap) (fun i s => [(27, .sl (now.map eTyp) nl tg), (6, .sl ((nextT (now.take i)).map eTyp) s.1 s.2.1), (4, .int .i64 ((n + now.length : Nat) : Int)), (5, .int .i64 deep)]) (fun _ s => s.2.2) (fun i s => Room H 3 s.2.1 s.2.2) (true, .full, H) (by omega) ?_ (fun _ _ h => h) (Room.start H 3) rfl (fun _ _ => rfl) ?_ ?_ (by decide)
        · simp only [go_sem, reduceIte, Nat.reduceEqDiff, Nat.reduceAdd, Nat.reduceMul, Nat.reduceSub, Nat.reduceLeDiff, Nat.reduceLT, reduceCtorEq, Int.natCast_zero, List.take_zero, nextT, List.flatMap_nil, List.map_nil]
        · intro i ⟨nl2, t2, H2⟩ hi he
          simp only at he ⊢
          refine aw_sr rfl ?_
          simp only [go_sem, reduceIte, Nat.reduceEqDiff, Nat.reduceAdd, Nat.reduceMul, Nat.reduceSub, Nat.reduceLeDiff, Nat.reduceLT, reduceCtorEq, getD_map hi, eTyp_eq, cTyp]
          refine ⟨⟨by omega, by omega, wid_eTyp _⟩, fun b2 hb2 => ?_⟩
          obtain ⟨H3, hr2, hs2⟩ := he.push (o := .vars (cTyp now[i])) hb2
          refine AW.of_hsub hs2 ?_
          have hb3 : hget H3 b2 = some (.vars (cTyp now[i])) := hr2.sub _ _ (hget_self _ _ _)
          refine aw_rg rfl ?_
          simp only [go_sem, reduceIte, Nat.reduceEqDiff, Nat.reduceAdd, Nat.reduceMul, Nat.reduceSub, Nat.reduceLeDiff, Nat.reduceLT, reduceCtorEq, hb3, cTyp]
          refine goP_room hr2 ?_ fun t' H' hr => ?_
          · have := nextT_len now (i + 1)
            rw [nextT_take hi, List.length_append] at this
            exact ⟨rfl, rfl, by decide, wid_eTyp _, wid_eTyp _, sca_eTyp _, by simp; omega, by simp; omega⟩
          simp only [go_sem, reduceIte, Nat.reduceEqDiff, Nat.reduceAdd, Nat.reduceMul, Nat.reduceSub, Nat.reduceLeDiff, Nat.reduceLT, reduceCtorEq, ← List.map_append, ← nextT_take hi]
          obtain ⟨H4, hr3, hs3⟩ := hr.pop (he.sub_none hb2)
          refine ⟨(nl2 && (now[i].args.map eTyp).isEmpty, t', H4), hr3, ?_, hs3⟩
          simp only [go_sem, reduceIte, Nat.reduceEqDiff, Nat.reduceAdd, Nat.reduceMul, Nat.reduceSub, Nat.reduceLeDiff, Nat.reduceLT, reduceCtorEq]
        · intro ⟨nl2, t2, H2⟩ he
          simp only at he ⊢
          refine hK5 _ _ ?_
          refine aw_rg rfl ?_
          simp only [go_sem, reduceIte, Nat.reduceEqDiff, Nat.reduceAdd, Nat.reduceMul, Nat.reduceSub, Nat.reduceLeDiff, Nat.reduceLT, reduceCtorEq, List.take_length]
          refine hK3 _ _ ?_
          refine aw_rg rfl ?_
          have hw2 : IntKind.i64.wrap ((deep : Int) + 1) = ((deep + 1 : Nat) : Int) := by rw [wrap64 (by omega) (by omega)]; simp
          simp only [go_sem, reduceIte, Nat.reduceEqDiff, Nat.reduceAdd, Nat.reduceMul, Nat.reduceSub, Nat.reduceLeDiff, Nat.reduceLT, reduceCtorEq, hw2]
          refine ⟨⟨⟨nextT now, n + now.length, deep + 1, nl2, t2, H2⟩, ?_, ?_, ?_, sub_trans i5 he.sub⟩, ?_, ?_, fun _ _ h => h⟩
          · have := tszs_next now; show tszs (nextT now) ≤ 2097152; omega
          · show n + now.length ≤ 1000; omega
          · show deep + 1 ≤ 101; omega
          · show 102 - (deep + 1) < 102 - deep; omega
          · simp only [go_sem, reduceIte, Nat.reduceEqDiff, Nat.reduceAdd, Nat.reduceMul, Nat.reduceSub, Nat.reduceLeDiff, Nat.reduceLT, reduceCtorEq]
    · refine aw_exit ?_
      refine hK1 _ _ ?_
      refine aw_sr rfl ?_
      simp only [go_sem, reduceIte, Nat.reduceEqDiff, Nat.reduceAdd, Nat.reduceMul, Nat.reduceSub, Nat.reduceLeDiff, Nat.reduceLT, reduceCtorEq]
      exact aw_ret ⟨trivial, _, rfl, ⟨_, Vle.refl _⟩, i5⟩

open sm
theorem law0_ShapeSame (p q : Prgm) (a b : Typ) (q0 : o29 p) (q1 : o29 q) (q2 : oTyp a) (q3 : oTyp b) : Quiet Try.prog 3 [.agg (cPrg p), .agg (cPrg q), .agg (cTyp a), .agg (cTyp b)] (.bool true) := by
  have hps := q_ProgramSmall p q0
  have hqs := q_ProgramSmall q q1
  have hts := q_TypesSmall2 [a, b] false .full (by simp only [tszs]; have h1 := q2.2; have h2 := q3.2; omega)
  have o4 : o23 p.2.2.2.1 := q0.2.2.2.1
  have o5 : o23 q.2.2.2.1 := q1.2.2.2.1
  have oA : o27 p.2.2.2.2.2.2.2 := q0.2.2.2.2.2.2.2
  have hAl : p.2.2.2.2.2.2.2.1.length ≤ 1048576 := oA.2.1
  have hS := q_SameS o4 o5 q2.1 (b := b)
  have hR := q_rShapeSame o4 o5 q2.1 (b := b)
  let zP : Prgm := ([], 0, ([], true), ([], true), ([], true), ([], true), ([], true), ([], true))
  have zok : o23 zP.2.2.2.1 := ⟨fun _ => rfl, by decide, fun d h => by cases h⟩
  have hA := q_SameS zok zok (a := .mk 1 [] [] true) (b := .mk 1 [] [] true) (.mk (by decide) (by decide) (fun _ => rfl) (by decide) (fun a h => by cases h))
  rw [show sameF (big zP zP) [] [] (.mk 1 [] [] true) (.mk 1 [] [] true) = true by rfl] at hA
  refine Quiet.weak fun G => ?_
  refine acall_body (rs := [.tmp 8]) Try.func3 rfl rfl Try.ntmps3 (by kernel_rfl) (Nat.le_of_ble_eq_true rfl) ?_
  refine aw_sr rfl ?_  -- r0 @high.go:133
  simp only [go_sem, reduceIte, Nat.reduceEqDiff, Nat.reduceAdd, Nat.reduceMul, Nat.reduceSub, Nat.reduceLeDiff, Nat.reduceLT, reduceCtorEq]
  intro b4 hb4 b5 hb5 b6 hb6 b7 hb7
  refine aw_box4 hb4 hb5 hb6 hb7 fun B1 hs1 h4 h5 h6 h7 => ?_
  have hsB := hs1
  refine aw_seq fun K3 hK3 => ?_
  refine aw_sr rfl ?_  -- r1 @high.go:134
  simp only [go_sem, reduceIte, Nat.reduceEqDiff, Nat.reduceAdd, Nat.reduceMul, Nat.reduceSub, Nat.reduceLeDiff, Nat.reduceLT, reduceCtorEq]
  refine goA_q (Quiet.args hA ?_) ?_
  · repeat (first | exact .nil | refine .cons (Vle.refl _) ?_ | refine .cons Vle.untag ?_ | refine .cons (Vle.aggL ?_) ?_ | refine .cons (Vle.slE ?_) ?_)
  simp only [go_sem, reduceIte, Nat.reduceEqDiff, Nat.reduceAdd, Nat.reduceMul, Nat.reduceSub, Nat.reduceLeDiff, Nat.reduceLT, reduceCtorEq]
  refine aw_if rfl (fun h => by simp at h) (fun h => ?_)
  refine aw_skip (hK3 _ _ ?_)
  simp only [e29] at h4 h5 hps hqs hS hR
  refine aw_seq fun K4 hK4 => ?_
  refine aw_sr rfl ?_  -- r3 @high.go:137
  simp only [go_sem, reduceIte, Nat.reduceEqDiff, Nat.reduceAdd, Nat.reduceMul, Nat.reduceSub, Nat.reduceLeDiff, Nat.reduceLT, reduceCtorEq, h4, h5, h6, h7]
  refine goA_qb hps fun x1 => ?_
  simp only [go_sem, reduceIte, Nat.reduceEqDiff, Nat.reduceAdd, Nat.reduceMul, Nat.reduceSub, Nat.reduceLeDiff, Nat.reduceLT, reduceCtorEq, h4, h5, h6, h7]
  refine goH_qb (fun hg => hqs) fun x2 => ?_
  simp only [go_sem, reduceIte, Nat.reduceEqDiff, Nat.reduceAdd, Nat.reduceMul, Nat.reduceSub, Nat.reduceLeDiff, Nat.reduceLT, reduceCtorEq, h4, h5, h6, h7]
  simp only [List.map_cons, List.map_nil, eTyp_eq] at hts
  refine goH_qb (fun hg => hts) fun x3 => ?_
  simp only [go_sem, reduceIte, Nat.reduceEqDiff, Nat.reduceAdd, Nat.reduceMul, Nat.reduceSub, Nat.reduceLeDiff, Nat.reduceLT, reduceCtorEq]
  refine aw_if rfl (fun h => ?_) (fun h => ?_)
  · refine aw_sr rfl ?_  -- r4 @high.go:138
    simp only [go_sem, reduceIte, Nat.reduceEqDiff, Nat.reduceAdd, Nat.reduceMul, Nat.reduceSub, Nat.reduceLeDiff, Nat.reduceLT, reduceCtorEq]
    exact aw_ret ⟨trivial, _, rfl, Vle.refl _, hsB⟩
  refine aw_skip (hK4 _ _ ?_)
  refine aw_seq fun K5 hK5 => ?_
  refine aw_sr rfl ?_  -- r5 @high.go:140
  simp only [go_sem, reduceIte, Nat.reduceEqDiff, Nat.reduceAdd, Nat.reduceMul, Nat.reduceSub, Nat.reduceLeDiff, Nat.reduceLT, reduceCtorEq, h4]
  refine aw_range p.2.2.2.2.2.2.2.1.length (S := Unit) (fun i _ => [(4, .ptr b4 0), (5, .ptr b5 0), (6, .ptr b6 0), (7, .ptr b7 0), (37, .sl (p.2.2.2.2.2.2.2.1.map eAcr) p.2.2.2.2.2.2.2.2 .no)]) (fun _ _ => B1) (fun i _ => True) () (by omega) ?_ (fun _ _ h => h) trivial rfl (fun _ _ => rfl) ?_ ?_ (by decide)
  · simp only [go_sem, reduceIte, Nat.reduceEqDiff, Nat.reduceAdd, Nat.reduceMul, Nat.reduceSub, Nat.reduceLeDiff, Nat.reduceLT, reduceCtorEq, Int.natCast_zero]
  · intro i _ hi _
    have hw := wid_eAcr p.2.2.2.2.2.2.2.1
    obtain ⟨k, hk, e1, e2⟩ : ∃ k, ∃ h : k < p.2.2.2.2.2.2.2.1.length, acrF p p.2.2.2.2.2.2.2.1[i].1 = some p.2.2.2.2.2.2.2.1[k] ∧ p.2.2.2.2.2.2.2.1.findIdx? (fun d => decide (d.1 = p.2.2.2.2.2.2.2.1[i].1)) = some k := by
      rcases acrF_ix p p.2.2.2.2.2.2.2.1[i].1 with ⟨_, e2⟩ | h
      · rw [List.findIdx?_eq_none_iff] at e2
        have := e2 _ (List.getElem_mem hi)
        simp at this
      · exact h
    have hAc := q_Actor p p.2.2.2.2.2.2.2.1[i].1 oA
    rw [e1, actV, actC] at hAc
    have oz := oA.2.2 _ (List.getElem_mem hk)
    have ozl : p.2.2.2.2.2.2.2.1[k].2.1.1.length ≤ 1048576 := oz.2.1.2.1
    refine aw_sr rfl ?_  -- r7 @high.go:140
    simp only [go_sem, reduceIte, Nat.reduceEqDiff, Nat.reduceAdd, Nat.reduceMul, Nat.reduceSub, Nat.reduceLeDiff, Nat.reduceLT, reduceCtorEq, getD_map hi, e42]
    refine ⟨⟨by omega, by omega, hw⟩, ?_⟩
    intro b10 hb10
    refine aw_box1 hb10 fun B2 hs2 h10 => ?_
    have g4 := hs2 _ _ h4
    have hI := q_IndexAcr [(b10, .vars (eAcr p.2.2.2.2.2.2.2.1[i]))] 17 [] [.ptr b10 0] (fun d => decide (d.1 = p.2.2.2.2.2.2.2.1[i].1)) p.2.2.2.2.2.2.2.1 p.2.2.2.2.2.2.2.2 .no (by omega) fun d _ => q_law1 d _ b10
    rw [e2, ixI] at hI
    refine aw_sr rfl ?_  -- r8 @high.go:141
    simp only [go_sem, reduceIte, Nat.reduceEqDiff, Nat.reduceAdd, Nat.reduceMul, Nat.reduceSub, Nat.reduceLeDiff, Nat.reduceLT, reduceCtorEq, g4, h10]
    refine goA_on hI (sub_one h10) ?_
    simp only [go_sem, reduceIte, Nat.reduceEqDiff, Nat.reduceAdd, Nat.reduceMul, Nat.reduceSub, Nat.reduceLeDiff, Nat.reduceLT, reduceCtorEq]
    simp only [e29] at hAc
    refine aw_sr rfl ?_  -- r9 @high.go:142
    simp only [go_sem, reduceIte, Nat.reduceEqDiff, Nat.reduceAdd, Nat.reduceMul, Nat.reduceSub, Nat.reduceLeDiff, Nat.reduceLT, reduceCtorEq, g4, h10]
    refine goA_q hAc ?_
    simp only [go_sem, reduceIte, Nat.reduceEqDiff, Nat.reduceAdd, Nat.reduceMul, Nat.reduceSub, Nat.reduceLeDiff, Nat.reduceLT, reduceCtorEq]
    intro b12 hb12
    refine aw_box1 hb12 fun B3 hs3 h12 => ?_
    replace g4 := hs3 _ _ g4
    refine aw_sr rfl ?_  -- r10 @high.go:143
    simp only [go_sem, reduceIte, Nat.reduceEqDiff, Nat.reduceAdd, Nat.reduceMul, Nat.reduceSub, Nat.reduceLeDiff, Nat.reduceLT, reduceCtorEq, g4, getD_map hk, e42]
    refine ⟨⟨by omega, by omega, hw⟩, ?_⟩
    generalize p.2.2.2.2.2.2.2.1[k] = z at h12 oz ozl
    intro b14 hb14
    refine aw_box1 hb14 fun B4 hs4 h14 => ?_
    replace h12 := hs4 _ _ h12
    have hsZ := sub_trans (sub_trans hs2 hs3) hs4
    have hE1 := q_EqNms z.2.1.1 z.2.1.1 z.2.1.2 z.2.1.2 .no .no (by omega)
    rw [decide_eq_true rfl] at hE1
    have hll := oz.2.2.1.len
    have hll' : z.2.2.1.1.length ≤ 1048576 := hll
    have hE2 := q_EqTrueT 21 (z.2.2.1.1.map cpT) z.2.2.1.1 z.2.2.1.1.isEmpty z.2.2.1.2 .no .no (by rw [List.length_map]; omega) (by simp) (fun i hi hj => by rw [List.getElem_map]; exact q_sameT _ _ (Nat.le_refl _) (oz.2.2.1.2.2 _ (List.getElem_mem hj)))
    have hE3 := q_sameT _ z.2.2.2.1 (Nat.le_refl _) oz.2.2.2.1.1
    rw [cCp] at hE3
    refine aw_sr rfl ?_  -- r11 @high.go:143
    simp only [go_sem, reduceIte, Nat.reduceEqDiff, Nat.reduceAdd, Nat.reduceMul, Nat.reduceSub, Nat.reduceLeDiff, Nat.reduceLT, reduceCtorEq, h12, h14]
    refine goH_q (fun hg => hE1) ?_
    simp only [go_sem, reduceIte, Nat.reduceEqDiff, Nat.reduceAdd, Nat.reduceMul, Nat.reduceSub, Nat.reduceLeDiff, Nat.reduceLT, reduceCtorEq, h12, h14]
    refine goH_q (fun hg => hE2) ?_
    simp only [go_sem, reduceIte, Nat.reduceEqDiff, Nat.reduceAdd, Nat.reduceMul, Nat.reduceSub, Nat.reduceLeDiff, Nat.reduceLT, reduceCtorEq, h12, h14]
    refine goH_q (fun hg => hE3) ?_
    simp only [go_sem, reduceIte, Nat.reduceEqDiff, Nat.reduceAdd, Nat.reduceMul, Nat.reduceSub, Nat.reduceLeDiff, Nat.reduceLT, reduceCtorEq, h12, h14]
    refine aw_if rfl (fun h => by simp at h) (fun h => ?_)
    refine aw_skip ⟨(), ?_⟩
    simp only [go_sem, reduceIte, Nat.reduceEqDiff, Nat.reduceAdd, Nat.reduceMul, Nat.reduceSub, Nat.reduceLeDiff, Nat.reduceLT, reduceCtorEq]
    exact hsZ
  intro _ _
  refine hK5 _ _ ?_
  refine aw_srd [(0,true),(1,true),(2,true),(3,true),(4,true),(5,true),(6,true),(7,true),(8,true),(9,true),(10,true),(11,true)] mixed rfl (by kernel_rfl) ?_  -- r14 @high.go:147
  simp only [go_sem, reduceIte, Nat.reduceEqDiff, Nat.reduceAdd, Nat.reduceMul, Nat.reduceSub, Nat.reduceLeDiff, Nat.reduceLT, reduceCtorEq, h4, h5, h6, h7]
  refine goQ_by hS ?_
  simp only [go_sem, reduceIte, Nat.reduceEqDiff, Nat.reduceAdd, Nat.reduceMul, Nat.reduceSub, Nat.reduceLeDiff, Nat.reduceLT, reduceCtorEq, h4, h5, h6, h7]
  refine goQ_by hR ?_
  simp only [go_sem, reduceIte, Nat.reduceEqDiff, Nat.reduceAdd, Nat.reduceMul, Nat.reduceSub, Nat.reduceLeDiff, Nat.reduceLT, reduceCtorEq]
  refine aw_ret ⟨trivial, _, rfl, ?_, hsB⟩
  rw [beq_self_eq_true]; exact Vle.refl _
end Go.Proofs.Ytclmcpbanaojfaa

/- ShapeSame: the law, over its arguments as data. -/
namespace Go.Proofs.Ytclmcpbanaojfaa.shapeSame
open Go.Proofs.YtclmcpbanaojfaaV
set_option linter.unusedVariables false
set_option maxRecDepth 100000
theorem law (p q : Prgm) (a b : Typ) (q0 : o29 p) (q1 : o29 q) (q2 : o32 a) (q3 : o32 b) : Quiet Try.prog 3 [.agg (e29 p), .agg (e29 q), .agg (e32 a), .agg (e32 b)] (.bool true) := by
  have h := law0_ShapeSame p q a b q0 q1 q2 q3
  rw [show e32 a = cTyp a from eTyp_eq a, show e32 b = cTyp b from eTyp_eq b]
  exact h
end Go.Proofs.Ytclmcpbanaojfaa.shapeSame

/- 'roadlaw5.ShapeSame' returns true for every input whose bulk is at most 1048576 values and letters (the statement's own bound): . No other condition. -/
set_option linter.unusedSimpArgs false
set_option linter.unusedVariables false
set_option maxRecDepth 100000
namespace Go.Proofs.Ytclmcpbanaojfaa.shapeSame
open Go.ChangeShapes Go.WideShapes Go.ChangeAt Go.RowKit
open Go.Proofs.YtclmcpbanaojfaaV
theorem own : ownKnob Try.prog.godebug = none := by kernel_rfl
theorem laidOut : laidOutB Try.prog = true := by kernel_rfl
theorem uBool : Try.prog.underlying 4 = some .bool := by kernel_rfl
theorem typed {xs : List V} (h : TyAll Try.prog [29, 29, 32, 32] xs) (hs : vszL xs ≤ 1048576) : Quiet Try.prog 3 xs (.bool true) := by
  obtain ⟨x0, x1, x2, x3, rfl, q0, q1, q2, q3⟩ := args h hs
  exact law x0 x1 x2 x3 q0 q1 q2 q3
theorem contract (H : Type) (enc : TypeId × Value → H) (W : World) (base : Nat) (args : Array Value) (ds gs : List (DataW H)) (before : List MemPlace)
    (hval : ∀ (j : Nat) t v, Try.f3.params[j]? = some t → args[j]? = some v → Value.okWide Try.prog W .any base t v)
    (hW : DataW.Whole enc Try.prog Try.f3.params.toList Rows.shapeSameSpec.vars false W args.toList ds gs before) (hk : Rows.uptoSmall H (ds ++ gs) = true) :
    Calls Try.prog 3 args W fun e W' => ∃ v, e = .returned v ∧ Rows.shapeSameSpec.post enc Try.prog Try.f3 false true false false W args v W' := by
  have hW' := hW
  obtain ⟨p, q, hA0, hV, rfl, hfz, hnd⟩ := hW
  have hA : DataW.TrodAll enc Try.prog W 0 (fun _ => true) true Try.f3.params.toList args.toList ds p := hA0
  obtain ⟨rfl, rfl⟩ := trodVars_none hV
  rw [Try.params3] at hA hval
  obtain ⟨xs, hr, ht, hs⟩ := trod_all (fun j t v hj hv => hval j t v (by simpa using hj) (by simpa using hv)) hA
  have hk' : Rows.uptoBulkAll (ds ++ []) ≤ 1048576 := of_decide_eq_true hk
  rw [List.append_nil] at hk'
  have hq := typed ht (Nat.le_trans hs hk')
  refine (ACall.calls (hq []) Try.func3 rfl rfl hr).mono fun e W' ⟨v, he, bel, M', x, G', hx, hxe, _⟩ => ?_
  subst hxe
  have hv := hx.bool_inv
  subst he hv
  have hst := trod_stays laidOut bel (by kernel_rfl) hA
  obtain ⟨v0, vs0, d0, ds0, p0, q0, hargs, rfl, rfl, h0, r0⟩ := trodAll_cons hA
  obtain ⟨v1, vs1, d1, ds1, p1, q1, rfl, rfl, rfl, h1, r1⟩ := trodAll_cons r0
  obtain ⟨v2, vs2, d2, ds2, p2, q2, rfl, rfl, rfl, h2, r2⟩ := trodAll_cons r1
  obtain ⟨v3, vs3, d3, ds3, p3, q3, rfl, rfl, rfl, h3, r3⟩ := trodAll_cons r2
  obtain ⟨rfl, rfl, rfl⟩ := trodAll_nil r3
  exact ⟨_, rfl, _, _, _, [], _, [], hW', trodAll_mk1 (shut_bool uBool _), hst, rfl, bel.frame _, fun h => by cases h⟩
set_option maxRecDepth 100000 in
theorem lifted (os : Os) (started : os.Started) (H : Type) (enc : TypeId × Value → H) (F : Stop.Interp) :
    ReturnsInHanded {} Try.checked os 3 .any ((Rows.OpenSpec.upto Rows.shapeSameSpec).pre6 enc Try.prog Try.f3 Rows.shapeSameUptoRow.domain false) (((Rows.OpenSpec.upto Rows.shapeSameSpec).at F).post enc Try.prog Try.f3 false true false false) := by
  refine returnsInHanded_of_cond (C := Try.checked) (s := Rows.OpenSpec.upto Rows.shapeSameSpec) (k := Rows.uptoSmall) rfl own started (by kernel_rfl) Try.func3
    (OpenSpec.witness (enc := enc) (C := Try.checked) (s := Rows.OpenSpec.upto Rows.shapeSameSpec) (k := Rows.uptoSmall) rfl false ⟨#[], #[(.agg #[(.string ⟨#[]⟩), (.int .i64 0), (.slice none 0 0), (.slice none 0 0), (.slice none 0 0), (.slice none 0 0), (.slice none 0 0), (.slice none 0 0)]), (.agg #[(.string ⟨#[]⟩), (.int .i64 0), (.slice none 0 0), (.slice none 0 0), (.slice none 0 0), (.slice none 0 0), (.slice none 0 0), (.slice none 0 0)]), (.agg #[(.int .i64 0), (.string ⟨#[]⟩), (.slice none 0 0)]), (.agg #[(.int .i64 0), (.string ⟨#[]⟩), (.slice none 0 0)])], []⟩ 8 (by kernel_rfl) (by kernel_rfl) (by kernel_rfl)
      (x := ([(.agg [(.lit (.string [])), (.lit (.int .i64 0)), .nil, .nil, .nil, .nil, .nil, .nil]), (.agg [(.lit (.string [])), (.lit (.int .i64 0)), .nil, .nil, .nil, .nil, .nil, .nil]), (.agg [(.lit (.int .i64 0)), (.lit (.string [])), .nil]), (.agg [(.lit (.int .i64 0)), (.lit (.string [])), .nil])], [], [])) (by kernel_rfl) rfl (by kernel_rfl)) ?_
  intro W base args ds gs before hval hW _ hk _
  exact contract H enc W base args ds gs before hval hW hk
set_option maxHeartbeats 4000000 in
theorem joined : joinedFacts Try.pinned.checked.prog 3 Try.f3 (Rows.OpenSpec.upto Rows.shapeSameSpec).bare Rows.shapeSameUptoRow = true := by
  unfold joinedFacts
  simp only [Bool.and_eq_true]
  repeat' apply And.intro
  all_goals (as_aux_lemma => kernel_rfl)
theorem over : Rows.shapeSameUptoRow.holds Try.pinned (Rows.OpenSpec.upto Rows.shapeSameSpec) :=
  OpenClaim.holds_of_cond 3 Try.f3 rfl rfl rfl rfl rfl rfl rfl ⟨rfl, rfl, rfl, rfl, rfl⟩ rfl rfl rfl rfl rfl (by kernel_rfl) Try.func3 joined
    (of_decide_eq_true (by kernel_rfl)) (by unfold Func.isWrapper; first | (rw [if_pos (by decide +kernel)]; kernel_rfl) | (rw [if_neg (by decide +kernel)]; exact ⟨rfl, rfl⟩))
    (fun os started H enc _ F => lifted os started H enc F)
theorem proved : Rows.ShapeSameUptoSaid := over
#print axioms proved
end Go.Proofs.Ytclmcpbanaojfaa.shapeSame
