/- Part 5 of a proof laid in parts; each part's own comment says what it proves and under which conditions. -/
import Derived.Test.YtlgfffngojlffaaGreatLq4
import Derived.Test.YtlgfffngojlffaaGreatLq3
/- Letters as bytes: the program's, the reference's. No conditions. -/
set_option linter.unusedSimpArgs false
set_option linter.unusedVariables false
namespace Go.Proofs.YtlgfffngojlffaaGreat
open Go.Proofs.YtlgfffngojlffaaGreatV
set_option maxHeartbeats 400000
set_option maxRecDepth 100000
def letterF (x : Lt) : (List UInt8 × Bool) × Int := if checkL x ≠ 0 then (([], true), checkL x) else ((encL x, false), 0)
theorem encL_ne (x : Lt) : encL x ≠ [] := by rw [encL]; simp
theorem encL_len {x : Lt} (ho : OkLt x) (hc : checkL x = 0) : (encL x).length ≤ 2010000 := by
  obtain ⟨k, f, t0, n, s, v⟩ := x
  obtain ⟨o1, o2, o3, o4, o5, o6⟩ := ho
  obtain ⟨c1, c2, c3, c4⟩ := checkL_good hc
  simp only at o1 o2 o3 o4 o5 o6 c1 c2 c3 c4
  have r2 := i64_range o2
  have r3 := i64_range o3
  have r4 := i64_range o4
  have htl := tailL_len o6.1 c3
  have l1 := natB_len64 (n := f.toNat) (by omega)
  have l2 := natB_len64 (n := t0.toNat) (by omega)
  have l3 := natB_len64 (n := n.toNat) (by omega)
  have l4 := natB_len64 (n := s.length) (by omega)
  simp only [encL, textB, List.length_append, List.length_cons]
  omega
theorem q_Letter (x : Lt) (ho : OkLt x) : Quiet Tryz.prog 78 [.agg (cLt x)] (pairB (letterF x)) := by
  have hq := q_CheckLetter x ho.2.2.2.2.2 ho.2.2.2.2.1
  refine Quiet.weak fun G => ?_
  refine acall_body (rs := [.tmp 2, .tmp 3]) Tryz.func78 rfl rfl Tryz.ntmps78 (by kernel_rfl) (Nat.le_of_ble_eq_true rfl) ?_
  refine aw_sr rfl ?_  -- r0 @value.go:271
  simp only [go_sem, reduceIte, Nat.reduceEqDiff, Nat.reduceAdd, Nat.reduceMul, Nat.reduceSub, Nat.reduceLeDiff, Nat.reduceLT, reduceCtorEq]
  intro b1 hb1
  refine aw_seq fun K1 hK1 => ?_
  refine aw_sr rfl ?_  -- r1 @value.go:272
  simp only [go_sem, reduceIte, Nat.reduceEqDiff, Nat.reduceAdd, Nat.reduceMul, Nat.reduceSub, Nat.reduceLeDiff, Nat.reduceLT, reduceCtorEq]
  refine goA_q hq ?_
  simp only [go_sem, reduceIte, Nat.reduceEqDiff, Nat.reduceAdd, Nat.reduceMul, Nat.reduceSub, Nat.reduceLeDiff, Nat.reduceLT, reduceCtorEq]
  refine aw_sr rfl ?_  -- r2 @value.go:272
  simp only [go_sem, reduceIte, Nat.reduceEqDiff, Nat.reduceAdd, Nat.reduceMul, Nat.reduceSub, Nat.reduceLeDiff, Nat.reduceLT, reduceCtorEq]
  refine aw_if rfl (fun h => ?_) (fun h => ?_)
  · refine aw_sr rfl ?_  -- r3 @value.go:273
    simp only [go_sem, reduceIte, Nat.reduceEqDiff, Nat.reduceAdd, Nat.reduceMul, Nat.reduceSub, Nat.reduceLeDiff, Nat.reduceLT, reduceCtorEq]
    refine aw_ret ⟨trivial, _, rfl, ?_, sub_tail hb1⟩
    rw [letterF, if_pos (by simpa using h)]
    exact Vle.tupL (.cons Vle.untag (.cons (Vle.refl _) .nil))
  have hc : checkL x = 0 := by simpa using h
  have hlen := encL_len ho hc
  refine aw_skip (hK1 _ _ ?_)
  refine aw_sr rfl ?_  -- r4 @value.go:275
  simp only [go_sem, reduceIte, Nat.reduceEqDiff, Nat.reduceAdd, Nat.reduceMul, Nat.reduceSub, Nat.reduceLeDiff, Nat.reduceLT, reduceCtorEq]
  intro b5 hb5
  refine aw_sr rfl ?_  -- r5 @value.go:276
  obtain ⟨n51, n5⟩ := fresh_cons hb5
  simp only [go_sem, reduceIte, Nat.reduceEqDiff, Nat.reduceAdd, Nat.reduceMul, Nat.reduceSub, Nat.reduceLeDiff, Nat.reduceLT, reduceCtorEq, n51]
  have w0 : WOk ((b1, .vars (cLt x)) :: G) b5 1 (bytesV []) ((b5, .vars [.sl [] true .full]) :: (b1, .vars (cLt x)) :: G) := ⟨hb5, true, .full, _, fun _ => rfl, Room.start _ _, sub_rfl⟩
  refine goA_by (a_wletter _ b5 x [] _ ho hc (by decide) w0) fun y G2 w1 => ?_
  have hold := w1.old
  obtain ⟨h0, nl, t, H, hnl, hr, hsb⟩ := w1
  have hgw : hget G2 b5 = some (.vars [.sl (bytesV ([] ++ encL x)) nl t]) := hsb _ _ (hr.sub _ _ (hget_self _ _ _))
  rw [List.nil_append] at hgw hnl
  simp only [go_sem, reduceIte, Nat.reduceEqDiff, Nat.reduceAdd, Nat.reduceMul, Nat.reduceSub, Nat.reduceLeDiff, Nat.reduceLT, reduceCtorEq]
  have hnf : nl = false := by
    cases nl with
    | false => rfl
    | true => have e := congrArg List.length (hnl rfl); rw [length_bytesV] at e; exact absurd (List.eq_nil_of_length_eq_zero e) (encL_ne x)
  refine aw_sr rfl ?_  -- r6 @value.go:277
  simp only [go_sem, reduceIte, Nat.reduceEqDiff, Nat.reduceAdd, Nat.reduceMul, Nat.reduceSub, Nat.reduceLeDiff, Nat.reduceLT, reduceCtorEq, hgw]
  refine goA_q (q_Clone (encL x) nl t (by omega) (fun e => by rw [hnf] at e; cases e)) ?_
  simp only [go_sem, reduceIte, Nat.reduceEqDiff, Nat.reduceAdd, Nat.reduceMul, Nat.reduceSub, Nat.reduceLeDiff, Nat.reduceLT, reduceCtorEq]
  refine aw_ret ⟨trivial, _, rfl, ?_, sub_trans (sub_tail hb1) hold⟩
  rw [letterF, if_neg (by simpa using hc), hnf]
  exact Vle.refl _
theorem q_letterText (x : Lt) (ho : OkLt x) (hc : checkL x = 0) : Quiet Tryz.prog 27 [.agg (cLt x)] (.str (encL x)) := by
  have hlen := encL_len ho hc
  obtain ⟨k, f, t0, n, s, v⟩ := x
  obtain ⟨o1, o2, o3, o4, o5, o6⟩ := ho
  obtain ⟨c1, c2, c3, c4⟩ := checkL_good hc
  simp only at o1 o2 o3 o4 o5 o6 c1 c2 c3 c4
  have hbad : 0 ≤ f ∧ 0 ≤ t0 ∧ 0 ≤ n := by
    unfold BadL at c2; simp only at c2; omega
  have r2 := i64_range o2
  have r3 := i64_range o3
  have r4 := i64_range o4
  have hw1 : IntKind.u64.wrap f = ((f.toNat : Nat) : Int) := by rw [wrap_u64]; omega
  have hw2 : IntKind.u64.wrap t0 = ((t0.toNat : Nat) : Int) := by rw [wrap_u64]; omega
  have hw3 : IntKind.u64.wrap n = ((n.toNat : Nat) : Int) := by rw [wrap_u64]; omega
  have hw4 : IntKind.u64.wrap ((s.length : Nat) : Int) = ((s.length : Nat) : Int) := by rw [wrap_u64]; omega
  simp only [encL, textB, List.length_append, List.length_cons] at hlen
  refine Quiet.weak fun G => ?_
  refine acall_body (rs := [.tmp 2]) Tryz.func27 rfl rfl Tryz.ntmps27 (by kernel_rfl) (Nat.le_of_ble_eq_true rfl) ?_
  refine aw_sr rfl ?_  -- r0 @value.go:217
  simp only [go_sem, reduceIte, Nat.reduceEqDiff, Nat.reduceAdd, Nat.reduceMul, Nat.reduceSub, Nat.reduceLeDiff, Nat.reduceLT, reduceCtorEq]
  intro b1 hb1
  refine aw_box1 hb1 fun B1 hs1 h1 => ?_
  have hsB := hs1
  refine aw_srd [(0,true),(1,true),(2,true),(3,true),(4,true),(5,true),(6,true),(7,true),(8,true),(9,true),(10,true),(11,true),(12,true),(13,true),(14,true),(15,true),(16,true),(17,true),(18,true),(19,true),(20,true),(21,true),(22,true),(23,true),(24,true),(25,true),(26,true),(27,true),(28,true),(29,true)] mixed rfl (by kernel_rfl) ?_  -- r1 @value.go:218
  simp only [go_sem, reduceIte, Nat.reduceEqDiff, Nat.reduceAdd, Nat.reduceMul, Nat.reduceSub, Nat.reduceLeDiff, Nat.reduceLT, reduceCtorEq, h1, hw1, hw2, hw3, hw4, one_u8]
  refine goQ_by (q_refnat f.toNat (by omega)) ?_
  simp only [go_sem, reduceIte, Nat.reduceEqDiff, Nat.reduceAdd, Nat.reduceMul, Nat.reduceSub, Nat.reduceLeDiff, Nat.reduceLT, reduceCtorEq, h1, hw1, hw2, hw3, hw4, one_u8]
  refine ⟨by first | omega | (simp only [List.length_append, List.length_cons, List.length_nil]; omega), ?_⟩
  refine goQ_by (q_refnat t0.toNat (by omega)) ?_
  simp only [go_sem, reduceIte, Nat.reduceEqDiff, Nat.reduceAdd, Nat.reduceMul, Nat.reduceSub, Nat.reduceLeDiff, Nat.reduceLT, reduceCtorEq, h1, hw1, hw2, hw3, hw4, one_u8]
  refine ⟨by first | omega | (simp only [List.length_append, List.length_cons, List.length_nil]; omega), ?_⟩
  refine goQ_by (q_refnat n.toNat (by omega)) ?_
  simp only [go_sem, reduceIte, Nat.reduceEqDiff, Nat.reduceAdd, Nat.reduceMul, Nat.reduceSub, Nat.reduceLeDiff, Nat.reduceLT, reduceCtorEq, h1, hw1, hw2, hw3, hw4, one_u8]
  refine ⟨by first | omega | (simp only [List.length_append, List.length_cons, List.length_nil]; omega), ?_⟩
  refine goQ_by (q_refnat s.length (by omega)) ?_
  simp only [go_sem, reduceIte, Nat.reduceEqDiff, Nat.reduceAdd, Nat.reduceMul, Nat.reduceSub, Nat.reduceLeDiff, Nat.reduceLT, reduceCtorEq, h1, hw1, hw2, hw3, hw4, one_u8]
  refine ⟨by first | omega | (simp only [List.length_append, List.length_cons, List.length_nil]; omega), by first | omega | (simp only [List.length_append, List.length_cons, List.length_nil]; omega), ?_⟩
  refine aw_mid (fun f' G' => FSub [(3, .str (encL (k, f, t0, n, s, v)))] f' ∧ G' = B1) ?_ ?_
  · -- 2 ways
    refine aw_sr rfl ?_  -- r2 @value.go:219
    simp only [go_sem, reduceIte, Nat.reduceEqDiff, Nat.reduceAdd, Nat.reduceMul, Nat.reduceSub, Nat.reduceLeDiff, Nat.reduceLT, reduceCtorEq, h1]
    refine aw_if rfl (fun h => ?_) (fun h => ?_)
    · rw [decide_eq_true_eq] at h
      have htv : tailL k v = encV v := by rw [tailL, if_pos h]
      rw [htv] at hlen
      refine aw_rg rfl ?_  -- r3 @value.go:220
      simp only [go_sem, reduceIte, Nat.reduceEqDiff, Nat.reduceAdd, Nat.reduceMul, Nat.reduceSub, Nat.reduceLeDiff, Nat.reduceLT, reduceCtorEq, h1]
      refine goA_q (q_valueText0 _ v (Nat.le_refl _) o6.1 (by omega)) ?_
      simp only [go_sem, reduceIte, Nat.reduceEqDiff, Nat.reduceAdd, Nat.reduceMul, Nat.reduceSub, Nat.reduceLeDiff, Nat.reduceLT, reduceCtorEq, h1]
      refine ⟨by first | omega | (simp only [List.length_append, List.length_cons, List.length_nil]; omega), ?_, rfl⟩
      show some (V.str _) = some (V.str _)
      rw [encL, htv]; simp [textB, List.append_assoc]
    · rw [decide_eq_false_iff_not] at h
      have htv : tailL k v = [] := by rw [tailL, if_neg h]
      refine aw_skip ⟨?_, rfl⟩
      show some (V.str _) = some (V.str _)
      rw [encL, htv]; simp [textB, List.append_assoc]
  intro f' G' ⟨hf, hg⟩
  rw [hg]
  refine AW.of_fsub hf ?_
  refine aw_sr rfl ?_  -- r4 @value.go:222
  simp only [go_sem, reduceIte, Nat.reduceEqDiff, Nat.reduceAdd, Nat.reduceMul, Nat.reduceSub, Nat.reduceLeDiff, Nat.reduceLT, reduceCtorEq]
  exact aw_ret ⟨trivial, _, rfl, Vle.refl _, hsB⟩
theorem q_LetterBytes (x : Lt) (ho : OkLt x) : Quiet Tryz.prog 66 [.agg (cLt x)] (pairB (letterF x)) := by
  have hq := q_LetterFault x ho.2.2.2.2.2 ho.2.2.2.2.1
  refine Quiet.weak fun G => ?_
  refine acall_body (rs := [.tmp 2, .tmp 3]) Tryz.func66 rfl rfl Tryz.ntmps66 (by kernel_rfl) (Nat.le_of_ble_eq_true rfl) ?_
  refine aw_sr rfl ?_  -- r0 @value.go:226
  simp only [go_sem, reduceIte, Nat.reduceEqDiff, Nat.reduceAdd, Nat.reduceMul, Nat.reduceSub, Nat.reduceLeDiff, Nat.reduceLT, reduceCtorEq]
  intro b1 hb1
  refine aw_box1 hb1 fun B1 hs1 h1 => ?_
  have hsB := hs1
  refine aw_seq fun K1 hK1 => ?_
  refine aw_sr rfl ?_  -- r1 @value.go:227
  simp only [go_sem, reduceIte, Nat.reduceEqDiff, Nat.reduceAdd, Nat.reduceMul, Nat.reduceSub, Nat.reduceLeDiff, Nat.reduceLT, reduceCtorEq, h1]
  refine goA_q hq ?_
  simp only [go_sem, reduceIte, Nat.reduceEqDiff, Nat.reduceAdd, Nat.reduceMul, Nat.reduceSub, Nat.reduceLeDiff, Nat.reduceLT, reduceCtorEq, h1]
  refine aw_sr rfl ?_  -- r2 @value.go:227
  simp only [go_sem, reduceIte, Nat.reduceEqDiff, Nat.reduceAdd, Nat.reduceMul, Nat.reduceSub, Nat.reduceLeDiff, Nat.reduceLT, reduceCtorEq]
  refine aw_if rfl (fun h => ?_) (fun h => ?_)
  · refine aw_sr rfl ?_  -- r3 @value.go:228
    simp only [go_sem, reduceIte, Nat.reduceEqDiff, Nat.reduceAdd, Nat.reduceMul, Nat.reduceSub, Nat.reduceLeDiff, Nat.reduceLT, reduceCtorEq]
    refine aw_ret ⟨trivial, _, rfl, ?_, hsB⟩
    rw [letterF, if_pos (by simpa using h)]
    exact Vle.tupL (.cons Vle.untag (.cons (Vle.refl _) .nil))
  have hc : checkL x = 0 := by simpa using h
  have hlen := encL_len ho hc
  refine aw_skip (hK1 _ _ ?_)
  refine aw_sr rfl ?_  -- r4 @value.go:230
  simp only [go_sem, reduceIte, Nat.reduceEqDiff, Nat.reduceAdd, Nat.reduceMul, Nat.reduceSub, Nat.reduceLeDiff, Nat.reduceLT, reduceCtorEq, h1]
  refine goA_q (q_letterText x ho hc) ?_
  simp only [go_sem, reduceIte, Nat.reduceEqDiff, Nat.reduceAdd, Nat.reduceMul, Nat.reduceSub, Nat.reduceLeDiff, Nat.reduceLT, reduceCtorEq, h1]
  refine aw_ret ⟨trivial, _, rfl, ?_, hsB⟩
  rw [letterF, if_neg (by simpa using hc)]
  exact Vle.refl _
end Go.Proofs.YtlgfffngojlffaaGreat

/- Letters that are read: the program's. No conditions. -/
set_option linter.unusedSimpArgs false
set_option linter.unusedVariables false
namespace Go.Proofs.YtlgfffngojlffaaGreat
open Go.Proofs.YtlgfffngojlffaaGreatV
set_option maxHeartbeats 400000
set_option maxRecDepth 100000
/-- A letter as a reader may make one. -/
def FineL (x : Lt) : Prop := (0 ≤ x.1 ∧ x.1 ≤ 255) ∧ (IntKind.i64.min ≤ x.2.1 ∧ x.2.1 ≤ IntKind.i64.max) ∧ (IntKind.i64.min ≤ x.2.2.1 ∧ x.2.2.1 ≤ IntKind.i64.max) ∧ (IntKind.i64.min ≤ x.2.2.2.1 ∧ x.2.2.2.1 ≤ IntKind.i64.max) ∧ x.2.2.2.2.1.length ≤ 4000 ∧ Fine x.2.2.2.2.2 ∧ x.2.2.2.2.2.sz ≤ 401
theorem FineL.ok {x : Lt} (h : FineL x) : OkLt x := by
  obtain ⟨h1, h2, h3, h4, h5, h6, h7⟩ := h
  have g1 : IntKind.i64.min = -9223372036854775808 := rfl
  have g2 : IntKind.i64.max = 9223372036854775807 := rfl
  have g3 : bulk = 1048576 := rfl
  exact ⟨by rw [g1, g2]; omega, h2, h3, h4, by rw [g3]; omega, h6.obulk h7⟩
def GoodL (x : Lt) : Prop := FineL x ∧ checkL x = 0
theorem zeroV_eq {v : Val} (h : Fine v) (hz : zeroV v = true) : v = Val.zero := by
  obtain ⟨k, n, t, ar, nl⟩ := v
  have e := h.eq
  simp only [zeroV, Bool.and_eq_true, decide_eq_true_eq] at hz
  obtain ⟨⟨⟨z1, z2⟩, z3⟩, z4⟩ := hz
  have z5 : ar = [] := List.eq_nil_of_length_eq_zero (by have : ((Val.mk k n t ar nl).args.length : Int) = (ar.length : Int) := rfl; omega)
  rw [e]
  simp only [Val.kind, Val.num, Val.text, Val.args] at z1 z2 z3 ⊢
  rw [z1, z2, z3, z5]; rfl
/-- What the value of a letter that is well formed must be. -/
theorem GoodL.value {x : Lt} (h : GoodL x) : (x.1 = 1 → Good x.2.2.2.2.2) ∧ (¬ x.1 = 1 → x.2.2.2.2.2 = Val.zero) := by
  obtain ⟨c1, c2, c3, c4⟩ := checkL_good h.2
  exact ⟨fun e => ⟨h.1.2.2.2.2.2.1, c3 e⟩, fun e => zeroV_eq h.1.2.2.2.2.2.1 (c4 e)⟩
theorem GoodL.nums {x : Lt} (h : GoodL x) : 0 ≤ x.2.1 ∧ 0 ≤ x.2.2.1 ∧ 0 ≤ x.2.2.2.1 := by
  obtain ⟨c1, c2, c3, c4⟩ := checkL_good h.2
  unfold BadL at c2; omega
abbrev cLt0 : List V := [.int .i64 0, .int .i64 0, .int .i64 0, .int .i64 0, .str [], .int .i64 0, .int .i64 0, .str [], .sl [] true .no]
def letterQ (br : Nat) (nl : Bool) (rest : List UInt8) (bad : Bool) (G : Heap) (y : V) (G' : Heap) : Prop :=
  ∃ (x : Lt) (rest' : List UInt8) (bad' : Bool) (left' : Int), FineL x ∧ y = .agg (cLt x) ∧ Rd G' br nl rest' bad' left' ∧ KB br G G' ∧ rest'.length ≤ rest.length ∧
    ∀ (z : Lt) (r : List UInt8), rest = encL z ++ r → GoodL z → bad = false → x = z ∧ rest' = r ∧ bad' = false
theorem i64_nat {n : Nat} {f : Int} (hf : 0 ≤ f) (hr : IntKind.i64.min ≤ f ∧ f ≤ IntKind.i64.max) (h : n = f.toNat) : IntKind.i64.wrap ((n : Nat) : Int) = f := by
  have := i64_range hr
  rw [h, wrap64 (by omega) (by omega)]; omega
theorem a_rletter (br : Nat) (nl : Bool) (rest : List UInt8) (bad : Bool) (left : Int) (G : Heap) (hl : rest.length ≤ 1099511627776) (hG : Rd G br nl rest bad left) :
    ACall Tryz.prog 56 [.ptr br 0] (letterQ br nl rest bad G) G := by
  have hG' : hget G br = some (.vars [.sl (bytesV rest) nl .no, .bool bad, .int .i64 left]) := hG
  refine acall_body (rs := [.cell 2 57]) Tryz.func56 rfl rfl Tryz.ntmps56 (by kernel_rfl) (Nat.le_of_ble_eq_true rfl) ?_
  refine aw_sr rfl ?_  -- r0
  simp only [go_sem, reduceIte, Nat.reduceEqDiff, Nat.reduceAdd, Nat.reduceMul, Nat.reduceSub, Nat.reduceLeDiff, Nat.reduceLT, reduceCtorEq]
  intro b2 hb2
  have ne2 : ¬ b2 = br := fun e => ne_fresh hG' hb2 e.symm
  refine aw_box1 hb2 fun B1 hs1 h2 => ?_
  have hR1 : Rd B1 br nl rest bad left := hs1 _ _ hG'
  refine aw_sr rfl ?_  -- r1
  simp only [go_sem, reduceIte, Nat.reduceEqDiff, Nat.reduceAdd, Nat.reduceMul, Nat.reduceSub, Nat.reduceLeDiff, Nat.reduceLT, reduceCtorEq]
  refine goA_by (a_rbyte br nl rest bad left B1 hl hR1) fun y G1 hy => ?_
  obtain ⟨c, rest1, bad1, rfl, hR2, k2, hc⟩ := hy
  have hl1 : rest1.length ≤ rest.length := by
    rcases hc with ⟨q1, q2, q3⟩ | ⟨q1, q2⟩
    · rw [q2]; exact Nat.zero_le _
    · rw [q1, List.length_cons]; omega
  have hcl := c.toNat_lt
  have hwc : IntKind.i64.wrap ((c.toNat : Nat) : Int) = ((c.toNat : Nat) : Int) := wrap64 (by omega) (by omega)
  have h22 := k2 _ _ ne2 h2
  simp only [go_sem, reduceIte, Nat.reduceEqDiff, Nat.reduceAdd, Nat.reduceMul, Nat.reduceSub, Nat.reduceLeDiff, Nat.reduceLT, reduceCtorEq, hwc]
  intro b3 hb3
  have ne3 : ¬ b3 = br := fun e => ne_fresh hR2 hb3 e.symm
  have ne32 : ¬ b3 = b2 := fun e => ne_fresh h22 hb3 e.symm
  have kG : KB br G G1 := KB.trans (B := B1) (fun b o _ h => hs1 _ _ h) k2
  have hG3 : hget G b3 = none := kG.none ne3 hb3
  refine aw_box1 hb3 fun B2 hs2 h3 => ?_
  replace h22 := hs2 _ _ h22
  have hR3 : Rd B2 br nl rest1 bad1 left := hs2 _ _ hR2
  have k3 := kG.sub hs2
  refine aw_sr rfl ?_  -- r2
  simp only [go_sem, reduceIte, Nat.reduceEqDiff, Nat.reduceAdd, Nat.reduceMul, Nat.reduceSub, Nat.reduceLeDiff, Nat.reduceLT, reduceCtorEq]
  refine goA_by (a_rnatural br nl rest1 bad1 left B2 (by omega) hR3) fun y G2 hy => ?_
  obtain ⟨n1, rest2, bad2, hn1, rfl, hR4, k4, hl2, hc2⟩ := hy
  have u1 := k4 _ _ ne3 h3
  have w1 := k4 _ _ ne2 h22
  simp only [go_sem, reduceIte, Nat.reduceEqDiff, Nat.reduceAdd, Nat.reduceMul, Nat.reduceSub, Nat.reduceLeDiff, Nat.reduceLT, reduceCtorEq, u1]
  have sb1 := hget_hset_self (y := .vars [.int .i64 ((c.toNat : Nat) : Int), .int .i64 (IntKind.i64.wrap ((n1 : Nat) : Int)), .int .i64 0, .int .i64 0, .str [], .int .i64 0, .int .i64 0, .str [], .sl [] true .full]) u1
  have sz1 := hset_keep (x := .vars [.int .i64 ((c.toNat : Nat) : Int), .int .i64 (IntKind.i64.wrap ((n1 : Nat) : Int)), .int .i64 0, .int .i64 0, .str [], .int .i64 0, .int .i64 0, .str [], .sl [] true .full]) w1 (fun e => ne32 e.symm)
  have hS1 : Rd _ br nl rest2 bad2 left := hset_keep (x := .vars [.int .i64 ((c.toNat : Nat) : Int), .int .i64 (IntKind.i64.wrap ((n1 : Nat) : Int)), .int .i64 0, .int .i64 0, .str [], .int .i64 0, .int .i64 0, .str [], .sl [] true .full]) hR4 (fun e => ne3 e.symm)
  have kk1 := (k3.trans k4).fresh hG3 (.vars [.int .i64 ((c.toNat : Nat) : Int), .int .i64 (IntKind.i64.wrap ((n1 : Nat) : Int)), .int .i64 0, .int .i64 0, .str [], .int .i64 0, .int .i64 0, .str [], .sl [] true .full])
  generalize hset G2 b3 (.vars [.int .i64 ((c.toNat : Nat) : Int), .int .i64 (IntKind.i64.wrap ((n1 : Nat) : Int)), .int .i64 0, .int .i64 0, .str [], .int .i64 0, .int .i64 0, .str [], .sl [] true .full]) = C1 at sb1 sz1 hS1 kk1 ⊢
  refine aw_sr rfl ?_  -- r3
  simp only [go_sem, reduceIte, Nat.reduceEqDiff, Nat.reduceAdd, Nat.reduceMul, Nat.reduceSub, Nat.reduceLeDiff, Nat.reduceLT, reduceCtorEq]
  refine goA_by (a_rnatural br nl rest2 bad2 left C1 (by omega) hS1) fun y G3 hy => ?_
  obtain ⟨n2, rest3, bad3, hn2, rfl, hR5, k5, hl3, hc3⟩ := hy
  have u2 := k5 _ _ ne3 sb1
  have w2 := k5 _ _ ne2 sz1
  simp only [go_sem, reduceIte, Nat.reduceEqDiff, Nat.reduceAdd, Nat.reduceMul, Nat.reduceSub, Nat.reduceLeDiff, Nat.reduceLT, reduceCtorEq, u2]
  have sb2 := hget_hset_self (y := .vars [.int .i64 ((c.toNat : Nat) : Int), .int .i64 (IntKind.i64.wrap ((n1 : Nat) : Int)), .int .i64 (IntKind.i64.wrap ((n2 : Nat) : Int)), .int .i64 0, .str [], .int .i64 0, .int .i64 0, .str [], .sl [] true .full]) u2
  have sz2 := hset_keep (x := .vars [.int .i64 ((c.toNat : Nat) : Int), .int .i64 (IntKind.i64.wrap ((n1 : Nat) : Int)), .int .i64 (IntKind.i64.wrap ((n2 : Nat) : Int)), .int .i64 0, .str [], .int .i64 0, .int .i64 0, .str [], .sl [] true .full]) w2 (fun e => ne32 e.symm)
  have hS2 : Rd _ br nl rest3 bad3 left := hset_keep (x := .vars [.int .i64 ((c.toNat : Nat) : Int), .int .i64 (IntKind.i64.wrap ((n1 : Nat) : Int)), .int .i64 (IntKind.i64.wrap ((n2 : Nat) : Int)), .int .i64 0, .str [], .int .i64 0, .int .i64 0, .str [], .sl [] true .full]) hR5 (fun e => ne3 e.symm)
  have kk2 := (kk1.trans k5).fresh hG3 (.vars [.int .i64 ((c.toNat : Nat) : Int), .int .i64 (IntKind.i64.wrap ((n1 : Nat) : Int)), .int .i64 (IntKind.i64.wrap ((n2 : Nat) : Int)), .int .i64 0, .str [], .int .i64 0, .int .i64 0, .str [], .sl [] true .full])
  generalize hset G3 b3 (.vars [.int .i64 ((c.toNat : Nat) : Int), .int .i64 (IntKind.i64.wrap ((n1 : Nat) : Int)), .int .i64 (IntKind.i64.wrap ((n2 : Nat) : Int)), .int .i64 0, .str [], .int .i64 0, .int .i64 0, .str [], .sl [] true .full]) = C2 at sb2 sz2 hS2 kk2 ⊢
  refine aw_sr rfl ?_  -- r4
  simp only [go_sem, reduceIte, Nat.reduceEqDiff, Nat.reduceAdd, Nat.reduceMul, Nat.reduceSub, Nat.reduceLeDiff, Nat.reduceLT, reduceCtorEq]
  refine goA_by (a_rnatural br nl rest3 bad3 left C2 (by omega) hS2) fun y G4 hy => ?_
  obtain ⟨n3, rest4, bad4, hn3, rfl, hR6, k6, hl4, hc4⟩ := hy
  have u3 := k6 _ _ ne3 sb2
  have w3 := k6 _ _ ne2 sz2
  simp only [go_sem, reduceIte, Nat.reduceEqDiff, Nat.reduceAdd, Nat.reduceMul, Nat.reduceSub, Nat.reduceLeDiff, Nat.reduceLT, reduceCtorEq, u3]
  have sb3 := hget_hset_self (y := .vars [.int .i64 ((c.toNat : Nat) : Int), .int .i64 (IntKind.i64.wrap ((n1 : Nat) : Int)), .int .i64 (IntKind.i64.wrap ((n2 : Nat) : Int)), .int .i64 (IntKind.i64.wrap ((n3 : Nat) : Int)), .str [], .int .i64 0, .int .i64 0, .str [], .sl [] true .full]) u3
  have sz3 := hset_keep (x := .vars [.int .i64 ((c.toNat : Nat) : Int), .int .i64 (IntKind.i64.wrap ((n1 : Nat) : Int)), .int .i64 (IntKind.i64.wrap ((n2 : Nat) : Int)), .int .i64 (IntKind.i64.wrap ((n3 : Nat) : Int)), .str [], .int .i64 0, .int .i64 0, .str [], .sl [] true .full]) w3 (fun e => ne32 e.symm)
  have hS3 : Rd _ br nl rest4 bad4 left := hset_keep (x := .vars [.int .i64 ((c.toNat : Nat) : Int), .int .i64 (IntKind.i64.wrap ((n1 : Nat) : Int)), .int .i64 (IntKind.i64.wrap ((n2 : Nat) : Int)), .int .i64 (IntKind.i64.wrap ((n3 : Nat) : Int)), .str [], .int .i64 0, .int .i64 0, .str [], .sl [] true .full]) hR6 (fun e => ne3 e.symm)
  have kk3 := (kk2.trans k6).fresh hG3 (.vars [.int .i64 ((c.toNat : Nat) : Int), .int .i64 (IntKind.i64.wrap ((n1 : Nat) : Int)), .int .i64 (IntKind.i64.wrap ((n2 : Nat) : Int)), .int .i64 (IntKind.i64.wrap ((n3 : Nat) : Int)), .str [], .int .i64 0, .int .i64 0, .str [], .sl [] true .full])
  generalize hset G4 b3 (.vars [.int .i64 ((c.toNat : Nat) : Int), .int .i64 (IntKind.i64.wrap ((n1 : Nat) : Int)), .int .i64 (IntKind.i64.wrap ((n2 : Nat) : Int)), .int .i64 (IntKind.i64.wrap ((n3 : Nat) : Int)), .str [], .int .i64 0, .int .i64 0, .str [], .sl [] true .full]) = C3 at sb3 sz3 hS3 kk3 ⊢
  refine aw_sr rfl ?_  -- r5
  simp only [go_sem, reduceIte, Nat.reduceEqDiff, Nat.reduceAdd, Nat.reduceMul, Nat.reduceSub, Nat.reduceLeDiff, Nat.reduceLT, reduceCtorEq]
  refine goA_by (a_rtext br nl rest4 bad4 left C3 (by omega) hS3) fun y G5 hy => ?_
  obtain ⟨txt, rest5, bad5, htx, rfl, hR7, k7, hl5, hc5⟩ := hy
  have u4 := k7 _ _ ne3 sb3
  have w4 := k7 _ _ ne2 sz3
  simp only [go_sem, reduceIte, Nat.reduceEqDiff, Nat.reduceAdd, Nat.reduceMul, Nat.reduceSub, Nat.reduceLeDiff, Nat.reduceLT, reduceCtorEq, u4]
  have sb4 := hget_hset_self (y := .vars [.int .i64 ((c.toNat : Nat) : Int), .int .i64 (IntKind.i64.wrap ((n1 : Nat) : Int)), .int .i64 (IntKind.i64.wrap ((n2 : Nat) : Int)), .int .i64 (IntKind.i64.wrap ((n3 : Nat) : Int)), .str txt, .int .i64 0, .int .i64 0, .str [], .sl [] true .full]) u4
  have sz4 := hset_keep (x := .vars [.int .i64 ((c.toNat : Nat) : Int), .int .i64 (IntKind.i64.wrap ((n1 : Nat) : Int)), .int .i64 (IntKind.i64.wrap ((n2 : Nat) : Int)), .int .i64 (IntKind.i64.wrap ((n3 : Nat) : Int)), .str txt, .int .i64 0, .int .i64 0, .str [], .sl [] true .full]) w4 (fun e => ne32 e.symm)
  have hS4 : Rd _ br nl rest5 bad5 left := hset_keep (x := .vars [.int .i64 ((c.toNat : Nat) : Int), .int .i64 (IntKind.i64.wrap ((n1 : Nat) : Int)), .int .i64 (IntKind.i64.wrap ((n2 : Nat) : Int)), .int .i64 (IntKind.i64.wrap ((n3 : Nat) : Int)), .str txt, .int .i64 0, .int .i64 0, .str [], .sl [] true .full]) hR7 (fun e => ne3 e.symm)
  have kk4 := (kk3.trans k7).fresh hG3 (.vars [.int .i64 ((c.toNat : Nat) : Int), .int .i64 (IntKind.i64.wrap ((n1 : Nat) : Int)), .int .i64 (IntKind.i64.wrap ((n2 : Nat) : Int)), .int .i64 (IntKind.i64.wrap ((n3 : Nat) : Int)), .str txt, .int .i64 0, .int .i64 0, .str [], .sl [] true .full])
  generalize hset G5 b3 (.vars [.int .i64 ((c.toNat : Nat) : Int), .int .i64 (IntKind.i64.wrap ((n1 : Nat) : Int)), .int .i64 (IntKind.i64.wrap ((n2 : Nat) : Int)), .int .i64 (IntKind.i64.wrap ((n3 : Nat) : Int)), .str txt, .int .i64 0, .int .i64 0, .str [], .sl [] true .full]) = C4 at sb4 sz4 hS4 kk4 ⊢
  have hS4' : hget C4 br = some (.vars [.sl (bytesV rest5) nl .no, .bool bad5, .int .i64 left]) := hS4
  refine aw_mid (fun f' G' => FSub [(2, .ptr b2 0), (3, .ptr b3 0)] f' ∧ ∃ v rest6 bad6 left6, Fine v ∧ v.sz ≤ 401 ∧ Rd G' br nl rest6 bad6 left6 ∧ hget G' b3 = some (.vars (cLt (((c.toNat : Nat) : Int), IntKind.i64.wrap ((n1 : Nat) : Int), IntKind.i64.wrap ((n2 : Nat) : Int), IntKind.i64.wrap ((n3 : Nat) : Int), txt, v))) ∧ hget G' b2 = some (.vars [.int .i64 0, .int .i64 0, .int .i64 0, .int .i64 0, .str [], .int .i64 0, .int .i64 0, .str [], .sl [] true .full]) ∧ KB br G G' ∧ rest6.length ≤ rest.length ∧
      ∀ (z : Val) (r : List UInt8), ((((c.toNat : Nat) : Int) = 1 → Good z) ∧ (¬ ((c.toNat : Nat) : Int) = 1 → z = Val.zero)) → rest5 = tailL ((c.toNat : Nat) : Int) z ++ r → bad5 = false → v = z ∧ rest6 = r ∧ bad6 = false) ?_ ?_
  · -- 2 ways
    refine aw_sr rfl ?_  -- r6
    simp only [go_sem, reduceIte, Nat.reduceEqDiff, Nat.reduceAdd, Nat.reduceMul, Nat.reduceSub, Nat.reduceLeDiff, Nat.reduceLT, reduceCtorEq, sb4, hS4']
    refine aw_if rfl (fun h => ?_) (fun h => ?_)
    · refine aw_rg rfl ?_  -- r7
      simp only [go_sem, reduceIte, Nat.reduceEqDiff, Nat.reduceAdd, Nat.reduceMul, Nat.reduceSub, Nat.reduceLeDiff, Nat.reduceLT, reduceCtorEq]
      refine goA_by (a_rvalue br nl rest5 bad5 left C4 (by omega) hS4) fun y G6 hy => ?_
      obtain ⟨v, rest6, bad6, left6, hv, rfl, j1, jk, j2, j3, j6⟩ := hy
      have u5 := jk _ _ ne3 sb4
      have w5 := jk _ _ ne2 sz4
      simp only [go_sem, reduceIte, Nat.reduceEqDiff, Nat.reduceAdd, Nat.reduceMul, Nat.reduceSub, Nat.reduceLeDiff, Nat.reduceLT, reduceCtorEq, u5]
      refine ⟨⟨rfl, rfl⟩, v, rest6, bad6, left6, hv, j3, hset_keep j1 (fun e => ne3 e.symm), hget_hset_self u5, hset_keep w5 (fun e => ne32 e.symm), (kk4.trans jk).fresh hG3 _, by omega, ?_⟩
      intro z r hz h1 h2
      have hk : ((c.toNat : Nat) : Int) = 1 := by
        rw [Bool.and_eq_true, decide_eq_true_eq] at h; exact h.1
      rw [tailL, if_pos hk] at h1
      have hg := hz.1 hk
      exact j6 z r h1 hg.1 hg.small.2 hg.small.1 h2
    · refine AW.hle (ds := cLt (((c.toNat : Nat) : Int), IntKind.i64.wrap ((n1 : Nat) : Int), IntKind.i64.wrap ((n2 : Nat) : Int), IntKind.i64.wrap ((n3 : Nat) : Int), txt, Val.zero)) sb4 (by repeat (first | exact .nil | refine .cons (Vle.refl _) ?_ | refine .cons Vle.untag ?_ | refine .cons (Vle.aggL ?_) ?_ | refine .cons (Vle.slE ?_) ?_)) ?_
      refine aw_skip ⟨⟨rfl, rfl⟩, Val.zero, rest5, bad5, left, Fine.zero, by decide, hset_keep hS4 (fun e => ne3 e.symm), hget_hset_self sb4, hset_keep sz4 (fun e => ne32 e.symm), kk4.fresh hG3 _, by omega, ?_⟩
      intro z r hz h1 h2
      have hk : ¬ ((c.toNat : Nat) : Int) = 1 := by
        intro e
        rw [h2, decide_eq_true e] at h; cases h
      rw [tailL, if_neg hk, List.nil_append] at h1
      exact ⟨(hz.2 hk).symm, h1, h2⟩
  intro f' B6 ⟨hf, v, rest6, bad6, left6, hv, hsz, hR8, g3, g2, kk5, hl6, hcan⟩
  refine AW.of_fsub hf ?_
  refine aw_sr rfl ?_  -- r8
  simp only [go_sem, reduceIte, Nat.reduceEqDiff, Nat.reduceAdd, Nat.reduceMul, Nat.reduceSub, Nat.reduceLeDiff, Nat.reduceLT, reduceCtorEq, g3, g2]
  have h24 := hget_hset_self (y := .vars (cLt (((c.toNat : Nat) : Int), IntKind.i64.wrap ((n1 : Nat) : Int), IntKind.i64.wrap ((n2 : Nat) : Int), IntKind.i64.wrap ((n3 : Nat) : Int), txt, v))) g2
  refine aw_ret ⟨trivial, ?_⟩
  simp only [go_sem, reduceIte, Nat.reduceEqDiff, Nat.reduceAdd, Nat.reduceMul, Nat.reduceSub, Nat.reduceLeDiff, Nat.reduceLT, reduceCtorEq, resL, resOf, h24]
  refine ⟨_, rfl, (((c.toNat : Nat) : Int), IntKind.i64.wrap ((n1 : Nat) : Int), IntKind.i64.wrap ((n2 : Nat) : Int), IntKind.i64.wrap ((n3 : Nat) : Int), txt, v), rest6, bad6, left6, ⟨⟨by omega, by omega⟩, wrapI_range _, wrapI_range _, wrapI_range _, htx, hv, hsz⟩, rfl, hset_keep hR8 (fun e => ne2 e.symm), kk5.fresh hb2 _, hl6, ?_⟩
  intro z r h1 h2 h3
  obtain ⟨zk, zf, zt, zn, zs, zv⟩ := z
  obtain ⟨p1, p2, p3⟩ := h2.nums
  obtain ⟨o1, o2, o3, o4, o5, o6, o7⟩ := h2.1
  simp only at p1 p2 p3 o1 o2 o3 o4 o5 o6 o7
  have r2 := i64_range o2
  have r3 := i64_range o3
  have r4 := i64_range o4
  rw [encL, List.cons_append, List.append_assoc, List.append_assoc, List.append_assoc, List.append_assoc] at h1
  rcases hc with ⟨q1, q2, q3⟩ | ⟨q1, q2⟩
  · rw [q1] at h1; cases h1
  rw [q1] at h1
  obtain ⟨g1, g2'⟩ := List.cons.inj h1
  obtain ⟨a1, a2, a3⟩ := hc2 _ _ g2' (by show zf.toNat < _; omega) (q2.trans h3)
  obtain ⟨b1', b2', b3'⟩ := hc3 _ _ a2 (by show zt.toNat < _; omega) a3
  obtain ⟨d1, d2, d3⟩ := hc4 _ _ b2' (by show zn.toNat < _; omega) b3'
  obtain ⟨e1, e2, e3⟩ := hc5 _ _ d2 o5 d3
  have hck : ((c.toNat : Nat) : Int) = zk := by rw [g1]; exact u8_nat o1
  have hval := h2.value
  obtain ⟨f1, f2, f3⟩ := hcan zv r (by rw [hck]; exact hval) (by rw [hck]; exact e2) e3
  refine ⟨?_, f2, f3⟩
  rw [hck, i64_nat p1 o2 a1, i64_nat p2 o3 b1', i64_nat p3 o4 d1, e1, f1]
end Go.Proofs.YtlgfffngojlffaaGreat

/- ReadLetter: what is read of bytes is what they were written for; other bytes are none of a letter's. No conditions. -/
set_option linter.unusedSimpArgs false
set_option linter.unusedVariables false
namespace Go.Proofs.YtlgfffngojlffaaGreat
open Go.Proofs.YtlgfffngojlffaaGreatV
set_option maxHeartbeats 400000
set_option maxRecDepth 100000
def Lt.zero : Lt := (0, 0, 0, 0, [], Val.zero)
theorem FineL.zero : FineL Lt.zero := ⟨by decide, by decide, by decide, by decide, by decide, Fine.zero, by decide⟩
open Classical in
/-- What is read of bytes. -/
noncomputable def readLF (b : List UInt8) : Lt × Int := if h : ∃ x, GoodL x ∧ encL x = b then (h.choose, 0) else (Lt.zero, 3)
abbrev pairL (p : Lt × Int) : V := .tup [.agg (cLt p.1), .int .i64 p.2]
theorem readLF_no {b : List UInt8} (h : ∀ x, GoodL x → ¬ encL x = b) : readLF b = (Lt.zero, 3) := by
  unfold readLF; rw [dif_neg]; exact fun ⟨x, h1, h2⟩ => h x h1 h2
theorem readLF_yes {b : List UInt8} {v : Lt} (h1 : GoodL v) (h2 : encL v = b) (h : ∀ x, GoodL x → encL x = b → v = x) : readLF b = (v, 0) := by
  unfold readLF
  have he : ∃ x, GoodL x ∧ encL x = b := ⟨v, h1, h2⟩
  rw [dif_pos he, ← h _ he.choose_spec.1 he.choose_spec.2]
theorem readLF_fine (b : List UInt8) : FineL (readLF b).1 := by
  unfold readLF
  split
  · rename_i h; exact h.choose_spec.1.1
  · exact FineL.zero
theorem q_ReadLetter (b : List UInt8) (nl : Bool) (hb : b.length ≤ bulk) : Quiet Tryz.prog 61 [.sl (bytesV b) nl .no] (pairL (readLF b)) := by
  have hbl : b.length ≤ 1048576 := hb
  refine Quiet.weak fun G => ?_
  refine acall_body (rs := [.cell 2 57, .tmp 3]) Tryz.func61 rfl rfl Tryz.ntmps61 (by kernel_rfl) (Nat.le_of_ble_eq_true rfl) ?_
  refine aw_sr rfl ?_  -- r0 @value.go:207
  simp only [go_sem, reduceIte, Nat.reduceEqDiff, Nat.reduceAdd, Nat.reduceMul, Nat.reduceSub, Nat.reduceLeDiff, Nat.reduceLT, reduceCtorEq]
  intro b2 hb2
  refine aw_box1 hb2 fun B1 hs1 h2 => ?_
  refine aw_seq fun K1 hK1 => ?_
  refine aw_sr rfl ?_  -- r1 @value.go:208
  simp only [go_sem, reduceIte, Nat.reduceEqDiff, Nat.reduceAdd, Nat.reduceMul, Nat.reduceSub, Nat.reduceLeDiff, Nat.reduceLT, reduceCtorEq]
  refine aw_if rfl (fun h => by simp at h; omega) (fun h => ?_)
  refine aw_skip (hK1 _ _ ?_)
  refine aw_sr rfl ?_  -- r3 @value.go:211
  simp only [go_sem, reduceIte, Nat.reduceEqDiff, Nat.reduceAdd, Nat.reduceMul, Nat.reduceSub, Nat.reduceLeDiff, Nat.reduceLT, reduceCtorEq]
  intro br hbr
  have ne2 : ¬ b2 = br := fun e => ne_fresh h2 hbr e
  have hGr : hget G br = none := by
    cases e : hget G br with
    | none => rfl
    | some o => have := hs1 _ _ e; rw [hbr] at this; cases this
  refine aw_box1 hbr fun B2 hs2 hR => ?_
  replace h2 := hs2 _ _ h2
  refine aw_sr rfl ?_  -- r4 @value.go:212
  simp only [go_sem, reduceIte, Nat.reduceEqDiff, Nat.reduceAdd, Nat.reduceMul, Nat.reduceSub, Nat.reduceLeDiff, Nat.reduceLT, reduceCtorEq]
  refine goA_by (a_rletter br nl b false 0 B2 (by omega) hR) fun y G1 hy => ?_
  obtain ⟨v, rest', bad', left', hv, rfl, j1, jk, j2, j6⟩ := hy
  have h22 := jk _ _ ne2 h2
  have hsG : Sub G G1 := fun x o hx => jk _ _ (fun e => by rw [e, hGr] at hx; cases hx) (hs2 _ _ (hs1 _ _ hx))
  simp only [go_sem, reduceIte, Nat.reduceEqDiff, Nat.reduceAdd, Nat.reduceMul, Nat.reduceSub, Nat.reduceLeDiff, Nat.reduceLT, reduceCtorEq]
  intro b5 hb5
  refine aw_box1 hb5 fun B3 hs3 h5 => ?_
  have h23 := hs3 _ _ h22
  have j13 : Rd B3 br nl rest' bad' left' := hs3 _ _ j1
  replace hsG := sub_trans hsG hs3
  refine aw_sr rfl ?_  -- r5 @value.go:213
  simp only [go_sem, reduceIte, Nat.reduceEqDiff, Nat.reduceAdd, Nat.reduceMul, Nat.reduceSub, Nat.reduceLeDiff, Nat.reduceLT, reduceCtorEq, h5]
  refine goA_q (q_Letter v hv.ok) ?_
  simp only [go_sem, reduceIte, Nat.reduceEqDiff, Nat.reduceAdd, Nat.reduceMul, Nat.reduceSub, Nat.reduceLeDiff, Nat.reduceLT, reduceCtorEq]
  refine aw_seq fun K2 hK2 => ?_
  refine aw_sr rfl ?_  -- r6 @value.go:214
  simp only [go_sem, reduceIte, Nat.reduceEqDiff, Nat.reduceAdd, Nat.reduceMul, Nat.reduceSub, Nat.reduceLeDiff, Nat.reduceLT, reduceCtorEq]
  refine goA_by (a_rdone br nl rest' bad' left' b (letterF v).1.1 nl (letterF v).1.2 (letterF v).2 B3 j13) fun y G4 hy => ?_
  obtain ⟨rfl, rfl⟩ := hy
  simp only [go_sem, reduceIte, Nat.reduceEqDiff, Nat.reduceAdd, Nat.reduceMul, Nat.reduceSub, Nat.reduceLeDiff, Nat.reduceLT, reduceCtorEq]
  refine aw_if rfl (fun h => ?_) (fun h => ?_)
  · refine aw_sr rfl ?_  -- r7 @value.go:215
    simp only [go_sem, reduceIte, Nat.reduceEqDiff, Nat.reduceAdd, Nat.reduceMul, Nat.reduceSub, Nat.reduceLeDiff, Nat.reduceLT, reduceCtorEq, h23]
    have h24 := hget_hset_self (y := .vars [.int .i64 0, .int .i64 0, .int .i64 0, .int .i64 0, .str [], .int .i64 0, .int .i64 0, .str [], .sl [] true .full]) h23
    refine aw_ret ⟨trivial, ?_⟩
    simp only [go_sem, reduceIte, Nat.reduceEqDiff, Nat.reduceAdd, Nat.reduceMul, Nat.reduceSub, Nat.reduceLeDiff, Nat.reduceLT, reduceCtorEq, resL, resOf, h24]
    refine ⟨_, rfl, ?_, sub_hset_fresh hb2 hsG⟩
    rw [readLF_no]
    · exact Vle.tupL (.cons (Vle.aggL (by repeat (first | exact .nil | refine .cons (Vle.refl _) ?_ | refine .cons Vle.untag ?_ | refine .cons (Vle.aggL ?_) ?_ | refine .cons (Vle.slE ?_) ?_))) (.cons (Vle.refl _) .nil))
    · intro x hx hxb
      obtain ⟨q1, q2, q3⟩ := j6 x [] (by rw [List.append_nil]; exact hxb.symm) hx rfl
      subst q1
      refine absurd h ?_
      rw [letterF, if_neg (by rw [hx.2]; simp)]
      simp [q2, q3, hxb]
  refine aw_skip (hK2 _ _ ?_)
  refine aw_sr rfl ?_  -- r8 @value.go:217
  simp only [go_sem, reduceIte, Nat.reduceEqDiff, Nat.reduceAdd, Nat.reduceMul, Nat.reduceSub, Nat.reduceLeDiff, Nat.reduceLT, reduceCtorEq, h23, h5]
  have h24 := hget_hset_self (y := .vars (cLt v)) h23
  refine aw_ret ⟨trivial, ?_⟩
  simp only [go_sem, reduceIte, Nat.reduceEqDiff, Nat.reduceAdd, Nat.reduceMul, Nat.reduceSub, Nat.reduceLeDiff, Nat.reduceLT, reduceCtorEq, resL, resOf, h24]
  refine ⟨_, rfl, ?_, sub_hset_fresh hb2 hsG⟩
  have hd : bad' = false ∧ rest' = [] ∧ (letterF v).2 = 0 ∧ b = (letterF v).1.1 := by simpa using h
  obtain ⟨d1, d2, d3, d4⟩ := hd
  have hc : checkL v = 0 := by
    by_cases hc : checkL v = 0
    · exact hc
    · rw [letterF, if_pos hc] at d3; exact absurd d3 hc
  rw [letterF, if_neg (by rw [hc]; simp)] at d4
  rw [readLF_yes (v := v)]
  · exact Vle.refl _
  · exact ⟨hv, hc⟩
  · exact d4.symm
  · intro x hx hxb
    exact (j6 x [] (by rw [List.append_nil]; exact hxb.symm) hx rfl).1
end Go.Proofs.YtlgfffngojlffaaGreat

/- Letters that are taken: the reference's. No conditions. -/
set_option linter.unusedSimpArgs false
set_option linter.unusedVariables false
namespace Go.Proofs.YtlgfffngojlffaaGreat
open Go.Proofs.YtlgfffngojlffaaGreatV
set_option maxHeartbeats 400000
set_option maxRecDepth 100000
def tletQ (br : Nat) (nl : Bool) (rest : List UInt8) (ok : Bool) (G : Heap) (y : V) (G' : Heap) : Prop :=
  ∃ (x : Lt) (rest' : List UInt8) (ok' : Bool), FineL x ∧ y = .agg (cLt x) ∧ Tk G' br nl rest' ok' ∧ KB br G G' ∧ rest'.length ≤ rest.length ∧ (ok' = true → ok = true ∧ rest'.length < rest.length) ∧
    ∀ (z : Lt) (r : List UInt8), rest = encL z ++ r → GoodL z → ok = true → x = z ∧ rest' = r ∧ ok' = true
theorem nat_range {n : Nat} (h : n < 9223372036854775808) : IntKind.i64.min ≤ ((n : Nat) : Int) ∧ ((n : Nat) : Int) ≤ IntKind.i64.max := by
  show -9223372036854775808 ≤ ((n : Nat) : Int) ∧ ((n : Nat) : Int) ≤ 9223372036854775807
  omega
theorem a_tletter (br : Nat) (nl : Bool) (rest : List UInt8) (ok : Bool) (G : Heap) (hl : rest.length ≤ 1099511627776) (hG : Tk G br nl rest ok) :
    ACall Tryz.prog 64 [.ptr br 0] (tletQ br nl rest ok G) G := by
  have hG' : hget G br = some (.vars [.sl (bytesV rest) nl .no, .bool ok]) := hG
  refine acall_body (rs := [.cell 2 57]) Tryz.func64 rfl rfl Tryz.ntmps64 (by kernel_rfl) (Nat.le_of_ble_eq_true rfl) ?_
  refine aw_sr rfl ?_  -- r0
  simp only [go_sem, reduceIte, Nat.reduceEqDiff, Nat.reduceAdd, Nat.reduceMul, Nat.reduceSub, Nat.reduceLeDiff, Nat.reduceLT, reduceCtorEq]
  intro b2 hb2
  have ne2 : ¬ b2 = br := fun e => ne_fresh hG' hb2 e.symm
  refine aw_box1 hb2 fun B1 hs1 h2 => ?_
  have hR1 : Tk B1 br nl rest ok := hs1 _ _ hG'
  refine aw_sr rfl ?_  -- r1
  simp only [go_sem, reduceIte, Nat.reduceEqDiff, Nat.reduceAdd, Nat.reduceMul, Nat.reduceSub, Nat.reduceLeDiff, Nat.reduceLT, reduceCtorEq]
  refine goA_by (a_one br nl rest ok B1 hl hR1) fun y G1 hy => ?_
  obtain ⟨c, rest1, bad1, rfl, hR2, k2, hc⟩ := hy
  have hl1 : rest1.length ≤ rest.length := by
    rcases hc with ⟨q1, q2, q3⟩ | ⟨q1, q2⟩
    · rw [q2]; exact Nat.zero_le _
    · rw [q1, List.length_cons]; omega
  have ho1 : bad1 = true → ok = true ∧ rest1.length < rest.length := fun e => by
    rcases hc with ⟨q1, q2, q3⟩ | ⟨q1, q2⟩
    · rw [q3] at e; cases e
    · exact ⟨q2 ▸ e, by rw [q1, List.length_cons]; omega⟩
  have hcl := c.toNat_lt
  have h22 := k2 _ _ ne2 h2
  simp only [go_sem, reduceIte, Nat.reduceEqDiff, Nat.reduceAdd, Nat.reduceMul, Nat.reduceSub, Nat.reduceLeDiff, Nat.reduceLT, reduceCtorEq]
  intro b3 hb3
  have ne3 : ¬ b3 = br := fun e => ne_fresh hR2 hb3 e.symm
  have ne32 : ¬ b3 = b2 := fun e => ne_fresh h22 hb3 e.symm
  have kG : KB br G G1 := KB.trans (B := B1) (fun b o _ h => hs1 _ _ h) k2
  have hG3 : hget G b3 = none := kG.none ne3 hb3
  refine aw_box1 hb3 fun B2 hs2 h3 => ?_
  replace h22 := hs2 _ _ h22
  have hR3 : Tk B2 br nl rest1 bad1 := hs2 _ _ hR2
  have k3 := kG.sub hs2
  refine aw_sr rfl ?_  -- r2
  simp only [go_sem, reduceIte, Nat.reduceEqDiff, Nat.reduceAdd, Nat.reduceMul, Nat.reduceSub, Nat.reduceLeDiff, Nat.reduceLT, reduceCtorEq]
  refine goA_by (a_tnat br nl rest1 bad1 B2 (by omega) hR3) fun y G2 hy => ?_
  obtain ⟨n1, rest2, bad2, hn1, rfl, hR4, k4, hl2, ho2, hc2⟩ := hy
  simp only [go_sem, reduceIte, Nat.reduceEqDiff, Nat.reduceAdd, Nat.reduceMul, Nat.reduceSub, Nat.reduceLeDiff, Nat.reduceLT, reduceCtorEq]
  refine goA_by (a_tnat br nl rest2 bad2 G2 (by omega) hR4) fun y G3 hy => ?_
  obtain ⟨n2, rest3, bad3, hn2, rfl, hR5, k5, hl3, ho3, hc3⟩ := hy
  simp only [go_sem, reduceIte, Nat.reduceEqDiff, Nat.reduceAdd, Nat.reduceMul, Nat.reduceSub, Nat.reduceLeDiff, Nat.reduceLT, reduceCtorEq]
  refine goA_by (a_tnat br nl rest3 bad3 G3 (by omega) hR5) fun y G4 hy => ?_
  obtain ⟨n3, rest4, bad4, hn3, rfl, hR6, k6, hl4, ho4, hc4⟩ := hy
  have u3 := k6 _ _ ne3 (k5 _ _ ne3 (k4 _ _ ne3 h3))
  have w3 := k6 _ _ ne2 (k5 _ _ ne2 (k4 _ _ ne2 h22))
  have s1 := hget_hset_self (y := .vars [.int .i64 ((c.toNat : Nat) : Int), .int .i64 ((n1 : Nat) : Int), .int .i64 0, .int .i64 0, .str [], .int .i64 0, .int .i64 0, .str [], .sl [] true .full]) u3
  have s2 := hget_hset_self (y := .vars [.int .i64 ((c.toNat : Nat) : Int), .int .i64 ((n1 : Nat) : Int), .int .i64 ((n2 : Nat) : Int), .int .i64 0, .str [], .int .i64 0, .int .i64 0, .str [], .sl [] true .full]) s1
  have s3 := hget_hset_self (y := .vars [.int .i64 ((c.toNat : Nat) : Int), .int .i64 ((n1 : Nat) : Int), .int .i64 ((n2 : Nat) : Int), .int .i64 ((n3 : Nat) : Int), .str [], .int .i64 0, .int .i64 0, .str [], .sl [] true .full]) s2
  simp only [go_sem, reduceIte, Nat.reduceEqDiff, Nat.reduceAdd, Nat.reduceMul, Nat.reduceSub, Nat.reduceLeDiff, Nat.reduceLT, reduceCtorEq, u3, s1, s2]
  have z3 := hset_keep (x := .vars [.int .i64 ((c.toNat : Nat) : Int), .int .i64 ((n1 : Nat) : Int), .int .i64 ((n2 : Nat) : Int), .int .i64 ((n3 : Nat) : Int), .str [], .int .i64 0, .int .i64 0, .str [], .sl [] true .full]) (hset_keep (x := .vars [.int .i64 ((c.toNat : Nat) : Int), .int .i64 ((n1 : Nat) : Int), .int .i64 ((n2 : Nat) : Int), .int .i64 0, .str [], .int .i64 0, .int .i64 0, .str [], .sl [] true .full]) (hset_keep (x := .vars [.int .i64 ((c.toNat : Nat) : Int), .int .i64 ((n1 : Nat) : Int), .int .i64 0, .int .i64 0, .str [], .int .i64 0, .int .i64 0, .str [], .sl [] true .full]) w3 (fun e => ne32 e.symm)) (fun e => ne32 e.symm)) (fun e => ne32 e.symm)
  have hS3 : Tk _ br nl rest4 bad4 := hset_keep (x := .vars [.int .i64 ((c.toNat : Nat) : Int), .int .i64 ((n1 : Nat) : Int), .int .i64 ((n2 : Nat) : Int), .int .i64 ((n3 : Nat) : Int), .str [], .int .i64 0, .int .i64 0, .str [], .sl [] true .full]) (hset_keep (x := .vars [.int .i64 ((c.toNat : Nat) : Int), .int .i64 ((n1 : Nat) : Int), .int .i64 ((n2 : Nat) : Int), .int .i64 0, .str [], .int .i64 0, .int .i64 0, .str [], .sl [] true .full]) (hset_keep (x := .vars [.int .i64 ((c.toNat : Nat) : Int), .int .i64 ((n1 : Nat) : Int), .int .i64 0, .int .i64 0, .str [], .int .i64 0, .int .i64 0, .str [], .sl [] true .full]) hR6 (fun e => ne3 e.symm)) (fun e => ne3 e.symm)) (fun e => ne3 e.symm)
  have kk3 := (((((k3.trans k4).trans k5).trans k6).fresh hG3 (.vars [.int .i64 ((c.toNat : Nat) : Int), .int .i64 ((n1 : Nat) : Int), .int .i64 0, .int .i64 0, .str [], .int .i64 0, .int .i64 0, .str [], .sl [] true .full])).trans (KB.refl br _))
  have kk4 : KB br G _ := KB.on (sub_hset_fresh (b := b3) (x := .vars [.int .i64 ((c.toNat : Nat) : Int), .int .i64 ((n1 : Nat) : Int), .int .i64 ((n2 : Nat) : Int), .int .i64 ((n3 : Nat) : Int), .str [], .int .i64 0, .int .i64 0, .str [], .sl [] true .full]) (by rw [hget_off]; split <;> first | rfl | exact hG3) (sub_hset_fresh (b := b3) (x := .vars [.int .i64 ((c.toNat : Nat) : Int), .int .i64 ((n1 : Nat) : Int), .int .i64 ((n2 : Nat) : Int), .int .i64 0, .str [], .int .i64 0, .int .i64 0, .str [], .sl [] true .full]) (by rw [hget_off]; split <;> first | rfl | exact hG3) kk3.off))
  generalize hset (hset (hset G4 b3 (.vars [.int .i64 ((c.toNat : Nat) : Int), .int .i64 ((n1 : Nat) : Int), .int .i64 0, .int .i64 0, .str [], .int .i64 0, .int .i64 0, .str [], .sl [] true .full])) b3 (.vars [.int .i64 ((c.toNat : Nat) : Int), .int .i64 ((n1 : Nat) : Int), .int .i64 ((n2 : Nat) : Int), .int .i64 0, .str [], .int .i64 0, .int .i64 0, .str [], .sl [] true .full])) b3 (.vars [.int .i64 ((c.toNat : Nat) : Int), .int .i64 ((n1 : Nat) : Int), .int .i64 ((n2 : Nat) : Int), .int .i64 ((n3 : Nat) : Int), .str [], .int .i64 0, .int .i64 0, .str [], .sl [] true .full]) = C3 at s3 z3 hS3 kk4 ⊢
  refine aw_sr rfl ?_  -- r3
  simp only [go_sem, reduceIte, Nat.reduceEqDiff, Nat.reduceAdd, Nat.reduceMul, Nat.reduceSub, Nat.reduceLeDiff, Nat.reduceLT, reduceCtorEq]
  refine goA_by (a_ttext br nl rest4 bad4 C3 (by omega) hS3) fun y G5 hy => ?_
  obtain ⟨txt, rest5, bad5, htx, rfl, hR7, k7, hl5, ho5, hc5⟩ := hy
  have u4 := k7 _ _ ne3 s3
  have w4 := k7 _ _ ne2 z3
  simp only [go_sem, reduceIte, Nat.reduceEqDiff, Nat.reduceAdd, Nat.reduceMul, Nat.reduceSub, Nat.reduceLeDiff, Nat.reduceLT, reduceCtorEq, u4]
  have s4 := hget_hset_self (y := .vars [.int .i64 ((c.toNat : Nat) : Int), .int .i64 ((n1 : Nat) : Int), .int .i64 ((n2 : Nat) : Int), .int .i64 ((n3 : Nat) : Int), .str txt, .int .i64 0, .int .i64 0, .str [], .sl [] true .full]) u4
  have z4 := hset_keep (x := .vars [.int .i64 ((c.toNat : Nat) : Int), .int .i64 ((n1 : Nat) : Int), .int .i64 ((n2 : Nat) : Int), .int .i64 ((n3 : Nat) : Int), .str txt, .int .i64 0, .int .i64 0, .str [], .sl [] true .full]) w4 (fun e => ne32 e.symm)
  have hS4 : Tk _ br nl rest5 bad5 := hset_keep (x := .vars [.int .i64 ((c.toNat : Nat) : Int), .int .i64 ((n1 : Nat) : Int), .int .i64 ((n2 : Nat) : Int), .int .i64 ((n3 : Nat) : Int), .str txt, .int .i64 0, .int .i64 0, .str [], .sl [] true .full]) hR7 (fun e => ne3 e.symm)
  have kk5 := (kk4.trans k7).fresh hG3 (.vars [.int .i64 ((c.toNat : Nat) : Int), .int .i64 ((n1 : Nat) : Int), .int .i64 ((n2 : Nat) : Int), .int .i64 ((n3 : Nat) : Int), .str txt, .int .i64 0, .int .i64 0, .str [], .sl [] true .full])
  generalize hset G5 b3 (.vars [.int .i64 ((c.toNat : Nat) : Int), .int .i64 ((n1 : Nat) : Int), .int .i64 ((n2 : Nat) : Int), .int .i64 ((n3 : Nat) : Int), .str txt, .int .i64 0, .int .i64 0, .str [], .sl [] true .full]) = C4 at s4 z4 hS4 kk5 ⊢
  have hS4' : hget C4 br = some (.vars [.sl (bytesV rest5) nl .no, .bool bad5]) := hS4
  refine aw_mid (fun f' G' => FSub [(2, .ptr b2 0), (3, .ptr b3 0)] f' ∧ ∃ v rest6 bad6, Fine v ∧ v.sz ≤ 401 ∧ Tk G' br nl rest6 bad6 ∧ hget G' b3 = some (.vars (cLt (((c.toNat : Nat) : Int), ((n1 : Nat) : Int), ((n2 : Nat) : Int), ((n3 : Nat) : Int), txt, v))) ∧ hget G' b2 = some (.vars [.int .i64 0, .int .i64 0, .int .i64 0, .int .i64 0, .str [], .int .i64 0, .int .i64 0, .str [], .sl [] true .full]) ∧ KB br G G' ∧ rest6.length ≤ rest5.length ∧ (bad6 = true → bad5 = true) ∧
      ∀ (z : Val) (r : List UInt8), ((((c.toNat : Nat) : Int) = 1 → Good z) ∧ (¬ ((c.toNat : Nat) : Int) = 1 → z = Val.zero)) → rest5 = tailL ((c.toNat : Nat) : Int) z ++ r → bad5 = true → v = z ∧ rest6 = r ∧ bad6 = true) ?_ ?_
  · -- 2 ways
    refine aw_sr rfl ?_  -- r4
    simp only [go_sem, reduceIte, Nat.reduceEqDiff, Nat.reduceAdd, Nat.reduceMul, Nat.reduceSub, Nat.reduceLeDiff, Nat.reduceLT, reduceCtorEq, s4, hS4']
    refine aw_if rfl (fun h => ?_) (fun h => ?_)
    · refine aw_rg rfl ?_  -- r5
      simp only [go_sem, reduceIte, Nat.reduceEqDiff, Nat.reduceAdd, Nat.reduceMul, Nat.reduceSub, Nat.reduceLeDiff, Nat.reduceLT, reduceCtorEq]
      refine goA_by (a_whole br nl rest5 bad5 C4 (by omega) hS4) fun y G6 hy => ?_
      obtain ⟨v, rest6, bad6, hv, rfl, j1, jk, j3, j2, j7, j6⟩ := hy
      have u5 := jk _ _ ne3 s4
      have w5 := jk _ _ ne2 z4
      simp only [go_sem, reduceIte, Nat.reduceEqDiff, Nat.reduceAdd, Nat.reduceMul, Nat.reduceSub, Nat.reduceLeDiff, Nat.reduceLT, reduceCtorEq, u5]
      refine ⟨⟨rfl, rfl⟩, v, rest6, bad6, hv, j3, hset_keep j1 (fun e => ne3 e.symm), hget_hset_self u5, hset_keep w5 (fun e => ne32 e.symm), (kk5.trans jk).fresh hG3 _, j2, fun e => (j7 e).1, ?_⟩
      intro z r hz h1 h2
      have hk : ((c.toNat : Nat) : Int) = 1 := by
        rw [Bool.and_eq_true, decide_eq_true_eq] at h; exact h.1
      rw [tailL, if_pos hk] at h1
      have hg := hz.1 hk
      exact j6 z r h1 hg.1 hg.small.2 hg.small.1 h2
    · refine AW.hle (ds := cLt (((c.toNat : Nat) : Int), ((n1 : Nat) : Int), ((n2 : Nat) : Int), ((n3 : Nat) : Int), txt, Val.zero)) s4 (by repeat (first | exact .nil | refine .cons (Vle.refl _) ?_ | refine .cons Vle.untag ?_ | refine .cons (Vle.aggL ?_) ?_ | refine .cons (Vle.slE ?_) ?_)) ?_
      refine aw_skip ⟨⟨rfl, rfl⟩, Val.zero, rest5, bad5, Fine.zero, by decide, hset_keep hS4 (fun e => ne3 e.symm), hget_hset_self s4, hset_keep z4 (fun e => ne32 e.symm), kk5.fresh hG3 _, Nat.le_refl _, id, ?_⟩
      intro z r hz h1 h2
      have hk : ¬ ((c.toNat : Nat) : Int) = 1 := by
        intro e
        rw [h2, decide_eq_true e] at h; cases h
      rw [tailL, if_neg hk, List.nil_append] at h1
      exact ⟨(hz.2 hk).symm, h1, h2⟩
  intro f' B6 ⟨hf, v, rest6, bad6, hv, hsz, hR8, g3, g2, kk6, hl6, ho6, hcan⟩
  refine AW.of_fsub hf ?_
  refine aw_sr rfl ?_  -- r6
  simp only [go_sem, reduceIte, Nat.reduceEqDiff, Nat.reduceAdd, Nat.reduceMul, Nat.reduceSub, Nat.reduceLeDiff, Nat.reduceLT, reduceCtorEq, g3, g2]
  have h24 := hget_hset_self (y := .vars (cLt (((c.toNat : Nat) : Int), ((n1 : Nat) : Int), ((n2 : Nat) : Int), ((n3 : Nat) : Int), txt, v))) g2
  refine aw_ret ⟨trivial, ?_⟩
  simp only [go_sem, reduceIte, Nat.reduceEqDiff, Nat.reduceAdd, Nat.reduceMul, Nat.reduceSub, Nat.reduceLeDiff, Nat.reduceLT, reduceCtorEq, resL, resOf, h24]
  refine ⟨_, rfl, (((c.toNat : Nat) : Int), ((n1 : Nat) : Int), ((n2 : Nat) : Int), ((n3 : Nat) : Int), txt, v), rest6, bad6, ⟨⟨by omega, by omega⟩, nat_range hn1, nat_range hn2, nat_range hn3, htx, hv, hsz⟩, rfl, hset_keep hR8 (fun e => ne2 e.symm), kk6.fresh hb2 _, by omega, fun e => by
    have e5 := ho5 (ho6 e)
    have e4 := ho4 e5.1
    have e3 := ho3 e4.1
    have e2 := ho2 e3.1
    have e1 := ho1 e2.1
    exact ⟨e1.1, by omega⟩, ?_⟩
  intro z r h1 h2 h3
  obtain ⟨zk, zf, zt, zn, zs, zv⟩ := z
  obtain ⟨p1, p2, p3⟩ := h2.nums
  obtain ⟨o1, o2, o3, o4, o5, o6, o7⟩ := h2.1
  simp only at p1 p2 p3 o1 o2 o3 o4 o5 o6 o7
  have r2 := i64_range o2
  have r3 := i64_range o3
  have r4 := i64_range o4
  rw [encL, List.cons_append, List.append_assoc, List.append_assoc, List.append_assoc, List.append_assoc] at h1
  rcases hc with ⟨q1, q2, q3⟩ | ⟨q1, q2⟩
  · rw [q1] at h1; cases h1
  rw [q1] at h1
  obtain ⟨g1, g2'⟩ := List.cons.inj h1
  obtain ⟨a1, a2, a3⟩ := hc2 _ _ g2' (by show zf.toNat < _; omega) (q2.trans h3)
  obtain ⟨b1', b2', b3'⟩ := hc3 _ _ a2 (by show zt.toNat < _; omega) a3
  obtain ⟨d1, d2, d3⟩ := hc4 _ _ b2' (by show zn.toNat < _; omega) b3'
  obtain ⟨e1, e2, e3⟩ := hc5 _ _ d2 o5 d3
  have hck : ((c.toNat : Nat) : Int) = zk := by rw [g1]; exact u8_nat o1
  have hval := h2.value
  obtain ⟨f1, f2, f3⟩ := hcan zv r (by rw [hck]; exact hval) (by rw [hck]; exact e2) e3
  refine ⟨?_, f2, f3⟩
  have x1 : ((n1 : Nat) : Int) = zf := by rw [a1]; show ((zf.toNat : Nat) : Int) = zf; omega
  have x2 : ((n2 : Nat) : Int) = zt := by rw [b1']; show ((zt.toNat : Nat) : Int) = zt; omega
  have x3 : ((n3 : Nat) : Int) = zn := by rw [d1]; show ((zn.toNat : Nat) : Int) = zn; omega
  rw [hck, x1, x2, x3, e1, f1]
end Go.Proofs.YtlgfffngojlffaaGreat

/- LetterOf: as ReadLetter; and the law. No conditions. -/
set_option linter.unusedSimpArgs false
set_option linter.unusedVariables false
namespace Go.Proofs.YtlgfffngojlffaaGreat
open Go.Proofs.YtlgfffngojlffaaGreatV
set_option maxHeartbeats 400000
set_option maxRecDepth 100000
theorem q_LetterOf (b : List UInt8) (nl : Bool) (hb : b.length ≤ bulk) : Quiet Tryz.prog 36 [.sl (bytesV b) nl .no] (pairL (readLF b)) := by
  have hbl : b.length ≤ 1048576 := hb
  refine Quiet.weak fun G => ?_
  refine acall_body (rs := [.cell 2 57, .tmp 3]) Tryz.func36 rfl rfl Tryz.ntmps36 (by kernel_rfl) (Nat.le_of_ble_eq_true rfl) ?_
  refine aw_sr rfl ?_  -- r0
  simp only [go_sem, reduceIte, Nat.reduceEqDiff, Nat.reduceAdd, Nat.reduceMul, Nat.reduceSub, Nat.reduceLeDiff, Nat.reduceLT, reduceCtorEq]
  intro b2 hb2
  refine aw_box1 hb2 fun B1 hs1 h2 => ?_
  refine aw_seq fun K1 hK1 => ?_
  refine aw_sr rfl ?_  -- r1
  simp only [go_sem, reduceIte, Nat.reduceEqDiff, Nat.reduceAdd, Nat.reduceMul, Nat.reduceSub, Nat.reduceLeDiff, Nat.reduceLT, reduceCtorEq]
  refine aw_if rfl (fun h => by simp at h; omega) (fun h => ?_)
  refine aw_skip (hK1 _ _ ?_)
  refine aw_sr rfl ?_  -- r3
  simp only [go_sem, reduceIte, Nat.reduceEqDiff, Nat.reduceAdd, Nat.reduceMul, Nat.reduceSub, Nat.reduceLeDiff, Nat.reduceLT, reduceCtorEq]
  intro br hbr
  have ne2 : ¬ b2 = br := fun e => ne_fresh h2 hbr e
  have hGr : hget G br = none := by
    cases e : hget G br with
    | none => rfl
    | some o => have := hs1 _ _ e; rw [hbr] at this; cases this
  refine aw_box1 hbr fun B2 hs2 hR => ?_
  replace h2 := hs2 _ _ h2
  refine aw_sr rfl ?_  -- r4
  simp only [go_sem, reduceIte, Nat.reduceEqDiff, Nat.reduceAdd, Nat.reduceMul, Nat.reduceSub, Nat.reduceLeDiff, Nat.reduceLT, reduceCtorEq]
  refine goA_by (a_tletter br nl b true B2 (by omega) hR) fun y G1 hy => ?_
  obtain ⟨v, rest', ok', hv, rfl, j1, jk, _, _, j6⟩ := hy
  have h22 := jk _ _ ne2 h2
  have hsG : Sub G G1 := fun x o hx => jk _ _ (fun e => by rw [e, hGr] at hx; cases hx) (hs2 _ _ (hs1 _ _ hx))
  simp only [go_sem, reduceIte, Nat.reduceEqDiff, Nat.reduceAdd, Nat.reduceMul, Nat.reduceSub, Nat.reduceLeDiff, Nat.reduceLT, reduceCtorEq]
  intro b5 hb5
  refine aw_box1 hb5 fun B3 hs3 h5 => ?_
  have h23 := hs3 _ _ h22
  have j13 : hget B3 br = some (.vars [.sl (bytesV rest') nl .no, .bool ok']) := hs3 _ _ j1
  replace hsG := sub_trans hsG hs3
  refine aw_sr rfl ?_  -- r5
  simp only [go_sem, reduceIte, Nat.reduceEqDiff, Nat.reduceAdd, Nat.reduceMul, Nat.reduceSub, Nat.reduceLeDiff, Nat.reduceLT, reduceCtorEq, h5]
  refine goA_q (q_LetterBytes v hv.ok) ?_
  simp only [go_sem, reduceIte, Nat.reduceEqDiff, Nat.reduceAdd, Nat.reduceMul, Nat.reduceSub, Nat.reduceLeDiff, Nat.reduceLT, reduceCtorEq]
  refine aw_seq fun K2 hK2 => ?_
  refine aw_sr rfl ?_  -- r6
  simp only [go_sem, reduceIte, Nat.reduceEqDiff, Nat.reduceAdd, Nat.reduceMul, Nat.reduceSub, Nat.reduceLeDiff, Nat.reduceLT, reduceCtorEq, j13]
  refine aw_if rfl (fun h => ?_) (fun h => ?_)
  · refine aw_sr rfl ?_  -- r7
    simp only [go_sem, reduceIte, Nat.reduceEqDiff, Nat.reduceAdd, Nat.reduceMul, Nat.reduceSub, Nat.reduceLeDiff, Nat.reduceLT, reduceCtorEq, h23]
    have h24 := hget_hset_self (y := .vars [.int .i64 0, .int .i64 0, .int .i64 0, .int .i64 0, .str [], .int .i64 0, .int .i64 0, .str [], .sl [] true .full]) h23
    refine aw_ret ⟨trivial, ?_⟩
    simp only [go_sem, reduceIte, Nat.reduceEqDiff, Nat.reduceAdd, Nat.reduceMul, Nat.reduceSub, Nat.reduceLeDiff, Nat.reduceLT, reduceCtorEq, resL, resOf, h24]
    refine ⟨_, rfl, ?_, sub_hset_fresh hb2 hsG⟩
    rw [readLF_no]
    · exact Vle.tupL (.cons (Vle.aggL (by repeat (first | exact .nil | refine .cons (Vle.refl _) ?_ | refine .cons Vle.untag ?_ | refine .cons (Vle.aggL ?_) ?_ | refine .cons (Vle.slE ?_) ?_))) (.cons (Vle.refl _) .nil))
    · intro x hx hxb
      obtain ⟨q1, q2, q3⟩ := j6 x [] (by rw [List.append_nil]; exact hxb.symm) hx rfl
      subst q1
      refine absurd h ?_
      rw [letterF, if_neg (by rw [hx.2]; simp)]
      simp [q2, q3, hxb]
  refine aw_skip (hK2 _ _ ?_)
  refine aw_sr rfl ?_  -- r8
  simp only [go_sem, reduceIte, Nat.reduceEqDiff, Nat.reduceAdd, Nat.reduceMul, Nat.reduceSub, Nat.reduceLeDiff, Nat.reduceLT, reduceCtorEq, h23, h5]
  have h24 := hget_hset_self (y := .vars (cLt v)) h23
  refine aw_ret ⟨trivial, ?_⟩
  simp only [go_sem, reduceIte, Nat.reduceEqDiff, Nat.reduceAdd, Nat.reduceMul, Nat.reduceSub, Nat.reduceLeDiff, Nat.reduceLT, reduceCtorEq, resL, resOf, h24]
  refine ⟨_, rfl, ?_, sub_hset_fresh hb2 hsG⟩
  have hd : ok' = true ∧ rest' = [] ∧ (letterF v).2 = 0 ∧ (letterF v).1.1 = b := by
    have hr : decide ((0 : Int) < ((rest'.length : Nat) : Int)) = decide (¬ rest' = []) := by
      cases rest' with
      | nil => rfl
      | cons x l => rw [decide_eq_true (p := (0 : Int) < (((x :: l).length : Nat) : Int)) (by rw [List.length_cons]; omega), decide_eq_true (p := ¬ x :: l = []) (by simp)]
    simp only [hr] at h
    by_cases g1 : ok' = true <;> by_cases g2 : rest' = [] <;> by_cases g3 : (letterF v).2 = 0 <;> by_cases g4 : (letterF v).1.1 = b <;> simp [g1, g2, g3, g4] at h ⊢
  obtain ⟨d1, d2, d3, d4⟩ := hd
  have hc : checkL v = 0 := by
    by_cases hc : checkL v = 0
    · exact hc
    · rw [letterF, if_pos hc] at d3; exact absurd d3 hc
  rw [letterF, if_neg (by rw [hc]; simp)] at d4
  rw [readLF_yes (v := v)]
  · exact Vle.refl _
  · exact ⟨hv, hc⟩
  · exact d4
  · intro x hx hxb
    exact (j6 x [] (by rw [List.append_nil]; exact hxb.symm) hx rfl).1
theorem q_sameLetter (a : Lt) (ho : OkVal a.2.2.2.2.2) : Quiet Tryz.prog 17 [.agg (cLt a), .agg (cLt a)] (.bool true) := by
  obtain ⟨k, f, t0, n, s, v⟩ := a
  refine Quiet.weak fun G => ?_
  refine acall_body (rs := [.tmp 4]) Tryz.func17 rfl rfl Tryz.ntmps17 (by kernel_rfl) (Nat.le_of_ble_eq_true rfl) ?_
  refine aw_sr rfl ?_  -- r0 @low.go:22
  simp only [go_sem, reduceIte, Nat.reduceEqDiff, Nat.reduceAdd, Nat.reduceMul, Nat.reduceSub, Nat.reduceLeDiff, Nat.reduceLT, reduceCtorEq]
  intro b2 hb2
  intro b3 hb3
  refine aw_box2 hb2 hb3 fun B1 hs1 h2 h3 _ _ => ?_
  have hsB := hs1
  refine aw_sr rfl ?_  -- r1 @low.go:23
  simp only [go_sem, reduceIte, Nat.reduceEqDiff, Nat.reduceAdd, Nat.reduceMul, Nat.reduceSub, Nat.reduceLeDiff, Nat.reduceLT, reduceCtorEq, h2, h3]
  refine goH_q (fun hg => q_sameValue v v ho) ?_
  simp only [go_sem, reduceIte, Nat.reduceEqDiff, Nat.reduceAdd, Nat.reduceMul, Nat.reduceSub, Nat.reduceLeDiff, Nat.reduceLT, reduceCtorEq, h2, h3]
  refine aw_ret ⟨trivial, _, rfl, ?_, hsB⟩
  show Vle (.bool _) (.bool true)
  simp [sameV_refl]
  exact Vle.refl _
namespace valueLetters
end valueLetters
end Go.Proofs.YtlgfffngojlffaaGreat

/- What is saved of an actor: what is wrong with it. No conditions. -/
set_option linter.unusedSimpArgs false
set_option linter.unusedVariables false
namespace Go.Proofs.YtlgfffngojlffaaGreat
open Go.Proofs.YtlgfffngojlffaaGreatV
set_option maxHeartbeats 400000
set_option maxRecDepth 100000
/-- The first fault, in order. -/
def firstF {A : Type} (f : A → Int) : List A → Int | [] => 0 | a :: l => if f a = 0 then firstF f l else f a
theorem firstF_zero {A : Type} {f : A → Int} : ∀ {l : List A}, firstF f l = 0 ↔ ∀ a ∈ l, f a = 0
  | [] => by simp [firstF]
  | a :: l => by
    rw [firstF]
    split
    · rename_i h; rw [firstF_zero]; simp [h]
    · rename_i h; simp [h]
theorem firstF_app {A : Type} {f : A → Int} : ∀ {l m : List A}, firstF f l = 0 → firstF f (l ++ m) = firstF f m
  | [], _, _ => rfl
  | a :: l, m, h => by
    have ha := firstF_zero.1 h a (by simp)
    rw [List.cons_append, firstF, if_pos ha]
    exact firstF_app (by rw [firstF, if_pos ha] at h; exact h)
theorem firstF_next {A : Type} {f : A → Int} {l : List A} {i : Nat} (hi : i < l.length) (h : firstF f (l.take i) = 0) (hf : f l[i] = 0) : firstF f (l.take (i + 1)) = 0 := by
  rw [List.take_succ_eq_append_getElem hi, firstF_app h, firstF, if_pos hf]; rfl
theorem firstF_hit {A : Type} {f : A → Int} {l : List A} {i : Nat} (hi : i < l.length) (h : firstF f (l.take i) = 0) (hf : ¬ f l[i] = 0) : firstF f l = f l[i] := by
  have e : firstF f l = firstF f (l.take i ++ l.drop i) := by rw [List.take_append_drop]
  rw [e, firstF_app h, List.drop_eq_getElem_cons hi, firstF, if_neg hf]
abbrev Rcv := Int × Val
abbrev cRcv (x : Rcv) : List V := [.int .i64 x.1, .int .i64 x.2.kind, .int .i64 x.2.num, .str x.2.text, .sl (x.2.args.map eVal) x.2.nl .no]
def eRcv (x : Rcv) : List V := cRcv x
theorem eI_eq (x : Rcv) : eRcv x = cRcv x := rfl
/-- What is saved: of whom, its state, what came. -/
abbrev Sv := List UInt8 × (List Val × Bool) × (List Rcv × Bool)
abbrev cSv (x : Sv) : List V := [.str x.1, .sl (x.2.1.1.map eVal) x.2.1.2 .no, .sl (x.2.2.1.map eRcv) x.2.2.2 .no]
def inpF (i : Rcv) : Int := if i.1 < 1 ∨ 3 < i.1 then 3 else if i.1 = 3 then (if zeroV i.2 = false then 3 else 0) else checkV i.2
def checkS (x : Sv) : Int := if x.1.length = 0 ∨ 16 < x.1.length then 3 else if 6 < x.2.1.1.length ∨ 2000 < x.2.2.1.length then 2 else if ¬ firstF checkV x.2.1.1 = 0 then firstF checkV x.2.1.1 else firstF inpF x.2.2.1
theorem q_all (l : List Val) (nl : Bool) (ho : ∀ v ∈ l, oVal v) (hl : (l.length : Int) ≤ 9223372036854775807) : Quiet Tryz.prog 98 [.sl (l.map eVal) nl .no] (.int .i64 (firstF checkV l)) := by
  refine Quiet.weak fun G => ?_
  refine acall_body (rs := [.tmp 2]) Tryz.func98 rfl rfl Tryz.ntmps98 (by kernel_rfl) (Nat.le_of_ble_eq_true rfl) ?_
  refine aw_sr rfl ?_
  simp only [go_sem, reduceIte, Nat.reduceEqDiff, Nat.reduceAdd, Nat.reduceMul, Nat.reduceSub, Nat.reduceLeDiff, Nat.reduceLT, reduceCtorEq]
  refine aw_seq fun K1 hK1 => ?_
  refine aw_sr rfl ?_
  simp only [go_sem, reduceIte, Nat.reduceEqDiff, Nat.reduceAdd, Nat.reduceMul, Nat.reduceSub, Nat.reduceLeDiff, Nat.reduceLT, reduceCtorEq]
  refine aw_range l.length (S := Unit) (fun i _ => [(6, .sl (l.map eVal) nl .no)]) (fun _ _ => G) (fun i _ => firstF checkV (l.take i) = 0) () hl ?_ (fun _ _ h => h) rfl rfl (fun _ _ => rfl) ?_ ?_ (by decide)
  · simp only [go_sem, reduceIte, Nat.reduceEqDiff, Nat.reduceAdd, Nat.reduceMul, Nat.reduceSub, Nat.reduceLeDiff, Nat.reduceLT, reduceCtorEq, Int.natCast_zero]
  · intro i _ hi he
    refine aw_sr rfl ?_  -- r3 @parcel.go:11
    simp only [go_sem, reduceIte, Nat.reduceEqDiff, Nat.reduceAdd, Nat.reduceMul, Nat.reduceSub, Nat.reduceLeDiff, Nat.reduceLT, reduceCtorEq, getD_map hi, eC]
    refine ⟨⟨by omega, by omega, wid_eVal _⟩, ?_⟩
    intro b4 hb4
    refine aw_box1 hb4 fun B1 hs1 h4 => ?_
    have hsB := hs1
    refine aw_sr rfl ?_  -- r4 @parcel.go:12
    simp only [go_sem, reduceIte, Nat.reduceEqDiff, Nat.reduceAdd, Nat.reduceMul, Nat.reduceSub, Nat.reduceLeDiff, Nat.reduceLT, reduceCtorEq, h4]
    refine goA_q (q_valCheck l[i] (ho _ (List.getElem_mem hi))) ?_
    simp only [go_sem, reduceIte, Nat.reduceEqDiff, Nat.reduceAdd, Nat.reduceMul, Nat.reduceSub, Nat.reduceLeDiff, Nat.reduceLT, reduceCtorEq, h4]
    refine aw_sr rfl ?_  -- r5 @parcel.go:12
    simp only [go_sem, reduceIte, Nat.reduceEqDiff, Nat.reduceAdd, Nat.reduceMul, Nat.reduceSub, Nat.reduceLeDiff, Nat.reduceLT, reduceCtorEq]
    refine aw_if rfl (fun h => ?_) (fun h => ?_)
    · have hc : ¬ checkV l[i] = 0 := by simpa using h
      refine aw_sr rfl ?_  -- r6 @parcel.go:13
      simp only [go_sem, reduceIte, Nat.reduceEqDiff, Nat.reduceAdd, Nat.reduceMul, Nat.reduceSub, Nat.reduceLeDiff, Nat.reduceLT, reduceCtorEq]
      exact aw_ret ⟨trivial, _, rfl, by rw [firstF_hit hi he hc]; exact Vle.refl _, hsB⟩
    have hc : checkV l[i] = 0 := by simpa using h
    refine aw_skip ⟨(), firstF_next hi he hc, ?_, hsB⟩
    simp only [go_sem, reduceIte, Nat.reduceEqDiff, Nat.reduceAdd, Nat.reduceMul, Nat.reduceSub, Nat.reduceLeDiff, Nat.reduceLT, reduceCtorEq]
  intro _ he
  rw [List.take_length] at he
  refine hK1 _ _ ?_
  refine aw_sr rfl ?_  -- r8 @parcel.go:16
  simp only [go_sem, reduceIte, Nat.reduceEqDiff, Nat.reduceAdd, Nat.reduceMul, Nat.reduceSub, Nat.reduceLeDiff, Nat.reduceLT, reduceCtorEq]
  exact aw_ret ⟨trivial, _, rfl, by rw [he]; exact Vle.refl _, sub_rfl⟩
/-- What any that is saved keeps to, in a statement. -/
def OkSv (x : Sv) : Prop := x.1.length ≤ 4194304 ∧ x.2.1.1.length ≤ 4194304 ∧ (∀ v ∈ x.2.1.1, oVal v) ∧ x.2.2.1.length ≤ 4194304 ∧ (∀ i ∈ x.2.2.1, oVal i.2)
theorem q_SavedFault (x : Sv) (ho : OkSv x) : Quiet Tryz.prog 80 [.agg (cSv x)] (.int .i64 (checkS x)) := by
  obtain ⟨a, ⟨st, n1⟩, inp, n2⟩ := x
  obtain ⟨o1, o2, o3, o4, o5⟩ := ho
  simp only at o1 o2 o3 o4 o5
  have hE : checkS (a, (st, n1), (inp, n2)) = if a.length = 0 ∨ 16 < a.length then 3 else if 6 < st.length ∨ 2000 < inp.length then 2 else if ¬ firstF checkV st = 0 then firstF checkV st else firstF inpF inp := rfl
  refine Quiet.weak fun G => ?_
  refine acall_body (rs := [.tmp 2]) Tryz.func80 rfl rfl Tryz.ntmps80 (by kernel_rfl) (Nat.le_of_ble_eq_true rfl) ?_
  refine aw_sr rfl ?_  -- r0 @value.go:259
  simp only [go_sem, reduceIte, Nat.reduceEqDiff, Nat.reduceAdd, Nat.reduceMul, Nat.reduceSub, Nat.reduceLeDiff, Nat.reduceLT, reduceCtorEq]
  intro b1 hb1
  refine aw_box1 hb1 fun B1 hs1 h1 => ?_
  have hsB := hs1
  refine aw_seq fun K1 hK1 => ?_
  refine aw_sr rfl ?_  -- r1 @value.go:260
  simp only [go_sem, reduceIte, Nat.reduceEqDiff, Nat.reduceAdd, Nat.reduceMul, Nat.reduceSub, Nat.reduceLeDiff, Nat.reduceLT, reduceCtorEq, h1]
  refine aw_if rfl (fun h => ?_) (fun h => ?_)
  · rw [if_pos (by
      simp only [Bool.or_eq_true, decide_eq_true_eq] at h
      rcases h with h | h
      · left; rw [h]; rfl
      · right; omega)] at hE
    refine aw_sr rfl ?_  -- r2 @value.go:261
    simp only [go_sem, reduceIte, Nat.reduceEqDiff, Nat.reduceAdd, Nat.reduceMul, Nat.reduceSub, Nat.reduceLeDiff, Nat.reduceLT, reduceCtorEq]
    exact aw_ret ⟨trivial, _, rfl, by rw [hE]; exact Vle.refl _, hsB⟩
  rw [if_neg (by
    simp only [Bool.or_eq_false_iff, decide_eq_false_iff_not] at h
    intro q
    rcases q with q | q
    · exact h.1 (List.eq_nil_of_length_eq_zero q)
    · omega)] at hE
  refine aw_skip (hK1 _ _ ?_)
  refine aw_seq fun K2 hK2 => ?_
  refine aw_sr rfl ?_  -- r3 @value.go:263
  simp only [go_sem, reduceIte, Nat.reduceEqDiff, Nat.reduceAdd, Nat.reduceMul, Nat.reduceSub, Nat.reduceLeDiff, Nat.reduceLT, reduceCtorEq, h1]
  refine aw_if rfl (fun h => ?_) (fun h => ?_)
  · rw [if_pos (by simp only [Bool.or_eq_true, decide_eq_true_eq] at h; omega)] at hE
    refine aw_sr rfl ?_  -- r4 @value.go:264
    simp only [go_sem, reduceIte, Nat.reduceEqDiff, Nat.reduceAdd, Nat.reduceMul, Nat.reduceSub, Nat.reduceLeDiff, Nat.reduceLT, reduceCtorEq]
    exact aw_ret ⟨trivial, _, rfl, by rw [hE]; exact Vle.refl _, hsB⟩
  rw [if_neg (by simp only [Bool.or_eq_false_iff, decide_eq_false_iff_not] at h; omega)] at hE
  refine aw_skip (hK2 _ _ ?_)
  refine aw_seq fun K3 hK3 => ?_
  refine aw_sr rfl ?_  -- r5 @value.go:266
  simp only [go_sem, reduceIte, Nat.reduceEqDiff, Nat.reduceAdd, Nat.reduceMul, Nat.reduceSub, Nat.reduceLeDiff, Nat.reduceLT, reduceCtorEq, h1]
  refine aw_range st.length (S := Unit) (fun i _ => [(1, .ptr b1 0), (29, .sl (st.map eVal) n1 .no)]) (fun _ _ => B1) (fun i _ => firstF checkV (st.take i) = 0) () (by omega) ?_ (fun _ _ h => h) rfl rfl (fun _ _ => rfl) ?_ ?_ (by decide)
  · simp only [go_sem, reduceIte, Nat.reduceEqDiff, Nat.reduceAdd, Nat.reduceMul, Nat.reduceSub, Nat.reduceLeDiff, Nat.reduceLT, reduceCtorEq, Int.natCast_zero]
  · intro i _ hi he
    refine aw_sr rfl ?_  -- r7 @value.go:266
    simp only [go_sem, reduceIte, Nat.reduceEqDiff, Nat.reduceAdd, Nat.reduceMul, Nat.reduceSub, Nat.reduceLeDiff, Nat.reduceLT, reduceCtorEq, getD_map hi, eC]
    refine ⟨⟨by omega, by omega, wid_eVal _⟩, ?_⟩
    intro b4 hb4
    refine aw_box1 hb4 fun B2 hs2 h4 => ?_
    have hsB2 := sub_trans hsB hs2
    refine aw_sr rfl ?_  -- r8 @value.go:267
    simp only [go_sem, reduceIte, Nat.reduceEqDiff, Nat.reduceAdd, Nat.reduceMul, Nat.reduceSub, Nat.reduceLeDiff, Nat.reduceLT, reduceCtorEq, h4]
    refine goA_q (q_ValueFault st[i] (o3 _ (List.getElem_mem hi))) ?_
    simp only [go_sem, reduceIte, Nat.reduceEqDiff, Nat.reduceAdd, Nat.reduceMul, Nat.reduceSub, Nat.reduceLeDiff, Nat.reduceLT, reduceCtorEq, h4]
    refine aw_sr rfl ?_  -- r9 @value.go:267
    simp only [go_sem, reduceIte, Nat.reduceEqDiff, Nat.reduceAdd, Nat.reduceMul, Nat.reduceSub, Nat.reduceLeDiff, Nat.reduceLT, reduceCtorEq]
    refine aw_if rfl (fun h => ?_) (fun h => ?_)
    · have hc : ¬ checkV st[i] = 0 := by simpa using h
      have hf := firstF_hit hi he hc
      rw [if_pos (by rw [hf]; exact hc), hf] at hE
      refine aw_sr rfl ?_  -- r10 @value.go:268
      simp only [go_sem, reduceIte, Nat.reduceEqDiff, Nat.reduceAdd, Nat.reduceMul, Nat.reduceSub, Nat.reduceLeDiff, Nat.reduceLT, reduceCtorEq]
      exact aw_ret ⟨trivial, _, rfl, by rw [hE]; exact Vle.refl _, hsB2⟩
    have hc : checkV st[i] = 0 := by simpa using h
    refine aw_skip ⟨(), firstF_next hi he hc, ?_, hs2⟩
    simp only [go_sem, reduceIte, Nat.reduceEqDiff, Nat.reduceAdd, Nat.reduceMul, Nat.reduceSub, Nat.reduceLeDiff, Nat.reduceLT, reduceCtorEq]
  intro _ he
  rw [List.take_length] at he
  rw [if_neg (by rw [he]; simp)] at hE
  refine hK3 _ _ ?_
  refine aw_seq fun K4 hK4 => ?_
  refine aw_sr rfl ?_  -- r12 @value.go:271
  simp only [go_sem, reduceIte, Nat.reduceEqDiff, Nat.reduceAdd, Nat.reduceMul, Nat.reduceSub, Nat.reduceLeDiff, Nat.reduceLT, reduceCtorEq, h1]
  refine aw_range inp.length (S := Unit) (fun i _ => [(42, .sl (inp.map eRcv) n2 .no)]) (fun _ _ => B1) (fun i _ => firstF inpF (inp.take i) = 0) () (by omega) ?_ (fun _ _ h => h) rfl rfl (fun _ _ => rfl) ?_ ?_ (by decide)
  · simp only [go_sem, reduceIte, Nat.reduceEqDiff, Nat.reduceAdd, Nat.reduceMul, Nat.reduceSub, Nat.reduceLeDiff, Nat.reduceLT, reduceCtorEq, Int.natCast_zero]
  · intro i _ hi he
    refine aw_sr rfl ?_  -- r14 @value.go:271
    simp only [go_sem, reduceIte, Nat.reduceEqDiff, Nat.reduceAdd, Nat.reduceMul, Nat.reduceSub, Nat.reduceLeDiff, Nat.reduceLT, reduceCtorEq, getD_map hi, eI_eq]
    refine ⟨⟨by omega, by omega, wid_map (g := eRcv) (fun _ => rfl) _⟩, ?_⟩
    intro b7 hb7
    refine aw_box1 hb7 fun B2 hs2 h7 => ?_
    have hsB2 := sub_trans hsB hs2
    have hm := List.getElem_mem hi
    generalize hgi : inp[i] = g at hm h7 ⊢
    have hnx : ∀ {k : Nat}, inpF g = 0 → firstF inpF (inp.take (i + 1)) = 0 := fun q => firstF_next hi he (by rw [hgi]; exact q)
    have hht : ¬ inpF g = 0 → firstF inpF inp = inpF g := fun q => by rw [firstF_hit hi he (by rw [hgi]; exact q), hgi]
    refine aw_seq fun K5 hK5 => ?_
    refine aw_sr rfl ?_  -- r15 @value.go:272
    simp only [go_sem, reduceIte, Nat.reduceEqDiff, Nat.reduceAdd, Nat.reduceMul, Nat.reduceSub, Nat.reduceLeDiff, Nat.reduceLT, reduceCtorEq, h7]
    refine goH_q (fun hg => q_none g.2) ?_
    simp only [go_sem, reduceIte, Nat.reduceEqDiff, Nat.reduceAdd, Nat.reduceMul, Nat.reduceSub, Nat.reduceLeDiff, Nat.reduceLT, reduceCtorEq, h7]
    refine aw_if rfl (fun h => ?_) (fun h => ?_)
    · have hf : inpF g = 3 := by
        simp only [Bool.or_eq_true, Bool.and_eq_true, Bool.not_eq_true', decide_eq_true_eq] at h
        unfold inpF
        rcases h with h | ⟨h, h'⟩
        · rw [if_pos h]
        · rw [if_neg (by omega), if_pos h, if_pos h']
      refine aw_sr rfl ?_  -- r16 @value.go:273
      simp only [go_sem, reduceIte, Nat.reduceEqDiff, Nat.reduceAdd, Nat.reduceMul, Nat.reduceSub, Nat.reduceLeDiff, Nat.reduceLT, reduceCtorEq]
      exact aw_ret ⟨trivial, _, rfl, by rw [hE, hht (by rw [hf]; decide), hf]; exact Vle.refl _, hsB2⟩
    simp only [Bool.or_eq_false_iff, Bool.and_eq_false_iff, Bool.not_eq_false', decide_eq_false_iff_not] at h
    refine aw_skip (hK5 _ _ ?_)
    refine aw_sr rfl ?_  -- r17 @value.go:275
    simp only [go_sem, reduceIte, Nat.reduceEqDiff, Nat.reduceAdd, Nat.reduceMul, Nat.reduceSub, Nat.reduceLeDiff, Nat.reduceLT, reduceCtorEq, h7]
    refine aw_if rfl (fun h2 => ?_) (fun h2 => ?_)
    · rw [decide_eq_true_eq] at h2
      have hf : inpF g = checkV g.2 := by
        unfold inpF
        rw [if_neg (by omega), if_neg (by omega)]
      refine aw_sr rfl ?_  -- r18 @value.go:276
      simp only [go_sem, reduceIte, Nat.reduceEqDiff, Nat.reduceAdd, Nat.reduceMul, Nat.reduceSub, Nat.reduceLeDiff, Nat.reduceLT, reduceCtorEq, h7]
      refine goA_q (q_ValueFault g.2 (o5 _ hm)) ?_
      simp only [go_sem, reduceIte, Nat.reduceEqDiff, Nat.reduceAdd, Nat.reduceMul, Nat.reduceSub, Nat.reduceLeDiff, Nat.reduceLT, reduceCtorEq, h7]
      refine aw_sr rfl ?_  -- r19 @value.go:276
      simp only [go_sem, reduceIte, Nat.reduceEqDiff, Nat.reduceAdd, Nat.reduceMul, Nat.reduceSub, Nat.reduceLeDiff, Nat.reduceLT, reduceCtorEq]
      refine aw_if rfl (fun h3 => ?_) (fun h3 => ?_)
      · have hc : ¬ checkV g.2 = 0 := by simpa using h3
        refine aw_sr rfl ?_  -- r20 @value.go:277
        simp only [go_sem, reduceIte, Nat.reduceEqDiff, Nat.reduceAdd, Nat.reduceMul, Nat.reduceSub, Nat.reduceLeDiff, Nat.reduceLT, reduceCtorEq]
        exact aw_ret ⟨trivial, _, rfl, by rw [hE, hht (by rw [hf]; exact hc), hf]; exact Vle.refl _, hsB2⟩
      have hc : checkV g.2 = 0 := by simpa using h3
      refine aw_skip ⟨(), hnx (k := 0) (by rw [hf]; exact hc), ?_, hs2⟩
      simp only [go_sem, reduceIte, Nat.reduceEqDiff, Nat.reduceAdd, Nat.reduceMul, Nat.reduceSub, Nat.reduceLeDiff, Nat.reduceLT, reduceCtorEq]
    · rw [decide_eq_false_iff_not] at h2
      have hf : inpF g = 0 := by
        unfold inpF
        have hk : g.1 = 3 := by omega
        rw [if_neg (by omega), if_pos hk, if_neg]
        rcases h.2 with q | q
        · exact absurd hk q
        · rw [q]; decide
      refine aw_skip ⟨(), hnx (k := 0) hf, ?_, hs2⟩
      simp only [go_sem, reduceIte, Nat.reduceEqDiff, Nat.reduceAdd, Nat.reduceMul, Nat.reduceSub, Nat.reduceLeDiff, Nat.reduceLT, reduceCtorEq]
  intro _ he
  rw [List.take_length] at he
  refine hK4 _ _ ?_
  refine aw_sr rfl ?_  -- r22 @value.go:281
  simp only [go_sem, reduceIte, Nat.reduceEqDiff, Nat.reduceAdd, Nat.reduceMul, Nat.reduceSub, Nat.reduceLeDiff, Nat.reduceLT, reduceCtorEq]
  exact aw_ret ⟨trivial, _, rfl, by rw [hE, he]; exact Vle.refl _, hsB⟩
def SmallSv (x : Sv) : Prop := x.1.length ≤ 1048576 ∧ x.2.1.1.length ≤ 1048576 ∧ (∀ v ∈ x.2.1.1, oVal v) ∧ x.2.2.1.length ≤ 1048576 ∧ (∀ i ∈ x.2.2.1, oVal i.2)
theorem SmallSv.ok {x : Sv} (h : SmallSv x) : OkSv x := ⟨by have := h.1; omega, by have := h.2.1; omega, h.2.2.1, by have := h.2.2.2.1; omega, h.2.2.2.2⟩
def OS (x : Sv) : Prop := x.1.length ≤ bulk ∧ OkS oVal x.2.1 ∧ OkS (fun i : Rcv => (IntKind.i64.min ≤ i.1 ∧ i.1 ≤ IntKind.i64.max) ∧ oVal i.2) x.2.2
theorem OS.small {x : Sv} (h : OS x) : SmallSv x := ⟨h.1, h.2.1.2.1, h.2.1.2.2, h.2.2.2.1, fun i hi => (h.2.2.2.2 i hi).2⟩
end Go.Proofs.YtlgfffngojlffaaGreat

/- What is saved of an actor: what is wrong with it (the program's). No conditions. -/
set_option linter.unusedSimpArgs false
set_option linter.unusedVariables false
namespace Go.Proofs.YtlgfffngojlffaaGreat
open Go.Proofs.YtlgfffngojlffaaGreatV
set_option maxHeartbeats 400000
set_option maxRecDepth 100000
theorem q_CheckSaved (x : Sv) (ho : OkSv x) : Quiet Tryz.prog 90 [.agg (cSv x)] (.int .i64 (checkS x)) := by
  obtain ⟨a, ⟨st, n1⟩, inp, n2⟩ := x
  obtain ⟨o1, o2, o3, o4, o5⟩ := ho
  simp only at o1 o2 o3 o4 o5
  have hE : checkS (a, (st, n1), (inp, n2)) = if a.length = 0 ∨ 16 < a.length then 3 else if 6 < st.length ∨ 2000 < inp.length then 2 else if ¬ firstF checkV st = 0 then firstF checkV st else firstF inpF inp := rfl
  refine Quiet.weak fun G => ?_
  refine acall_body (rs := [.tmp 2]) Tryz.func90 rfl rfl Tryz.ntmps90 (by kernel_rfl) (Nat.le_of_ble_eq_true rfl) ?_
  refine aw_sr rfl ?_  -- r0 @parcel.go:20
  simp only [go_sem, reduceIte, Nat.reduceEqDiff, Nat.reduceAdd, Nat.reduceMul, Nat.reduceSub, Nat.reduceLeDiff, Nat.reduceLT, reduceCtorEq]
  intro b1 hb1
  refine aw_box1 hb1 fun B1 hs1 h1 => ?_
  have hsB := hs1
  refine aw_seq fun K1 hK1 => ?_
  refine aw_sr rfl ?_  -- r1 @parcel.go:21
  simp only [go_sem, reduceIte, Nat.reduceEqDiff, Nat.reduceAdd, Nat.reduceMul, Nat.reduceSub, Nat.reduceLeDiff, Nat.reduceLT, reduceCtorEq, h1]
  refine aw_if rfl (fun h => ?_) (fun h => ?_)
  · rw [if_pos (by simp only [Bool.or_eq_true, decide_eq_true_eq] at h; omega)] at hE
    refine aw_sr rfl ?_  -- r2 @parcel.go:22
    simp only [go_sem, reduceIte, Nat.reduceEqDiff, Nat.reduceAdd, Nat.reduceMul, Nat.reduceSub, Nat.reduceLeDiff, Nat.reduceLT, reduceCtorEq]
    exact aw_ret ⟨trivial, _, rfl, by rw [hE]; exact Vle.refl _, hsB⟩
  rw [if_neg (by simp only [Bool.or_eq_false_iff, decide_eq_false_iff_not] at h; omega)] at hE
  refine aw_skip (hK1 _ _ ?_)
  refine aw_seq fun K2 hK2 => ?_
  refine aw_sr rfl ?_  -- r3 @parcel.go:24
  simp only [go_sem, reduceIte, Nat.reduceEqDiff, Nat.reduceAdd, Nat.reduceMul, Nat.reduceSub, Nat.reduceLeDiff, Nat.reduceLT, reduceCtorEq, h1]
  refine aw_if rfl (fun h => ?_) (fun h => ?_)
  · rw [if_pos (by simp only [Bool.or_eq_true, decide_eq_true_eq] at h; omega)] at hE
    refine aw_sr rfl ?_  -- r4 @parcel.go:25
    simp only [go_sem, reduceIte, Nat.reduceEqDiff, Nat.reduceAdd, Nat.reduceMul, Nat.reduceSub, Nat.reduceLeDiff, Nat.reduceLT, reduceCtorEq]
    exact aw_ret ⟨trivial, _, rfl, by rw [hE]; exact Vle.refl _, hsB⟩
  rw [if_neg (by simp only [Bool.or_eq_false_iff, decide_eq_false_iff_not] at h; omega)] at hE
  refine aw_skip (hK2 _ _ ?_)
  refine aw_seq fun K3 hK3 => ?_
  refine aw_sr rfl ?_  -- r5 @parcel.go:27
  simp only [go_sem, reduceIte, Nat.reduceEqDiff, Nat.reduceAdd, Nat.reduceMul, Nat.reduceSub, Nat.reduceLeDiff, Nat.reduceLT, reduceCtorEq, h1]
  refine goA_q (q_all st n1 o3 (by omega)) ?_
  simp only [go_sem, reduceIte, Nat.reduceEqDiff, Nat.reduceAdd, Nat.reduceMul, Nat.reduceSub, Nat.reduceLeDiff, Nat.reduceLT, reduceCtorEq, h1]
  refine aw_sr rfl ?_  -- r6 @parcel.go:27
  simp only [go_sem, reduceIte, Nat.reduceEqDiff, Nat.reduceAdd, Nat.reduceMul, Nat.reduceSub, Nat.reduceLeDiff, Nat.reduceLT, reduceCtorEq]
  refine aw_if rfl (fun h => ?_) (fun h => ?_)
  · rw [if_pos (by simpa using h)] at hE
    refine aw_sr rfl ?_  -- r7 @parcel.go:28
    simp only [go_sem, reduceIte, Nat.reduceEqDiff, Nat.reduceAdd, Nat.reduceMul, Nat.reduceSub, Nat.reduceLeDiff, Nat.reduceLT, reduceCtorEq]
    exact aw_ret ⟨trivial, _, rfl, by rw [hE]; exact Vle.refl _, hsB⟩
  rw [if_neg (by simpa using h)] at hE
  refine aw_skip (hK3 _ _ ?_)
  refine aw_seq fun K4 hK4 => ?_
  refine aw_sr rfl ?_  -- r8 @parcel.go:30
  simp only [go_sem, reduceIte, Nat.reduceEqDiff, Nat.reduceAdd, Nat.reduceMul, Nat.reduceSub, Nat.reduceLeDiff, Nat.reduceLT, reduceCtorEq, h1]
  refine aw_range inp.length (S := Unit) (fun i _ => [(34, .sl (inp.map eRcv) n2 .no)]) (fun _ _ => B1) (fun i _ => firstF inpF (inp.take i) = 0) () (by omega) ?_ (fun _ _ h => h) rfl rfl (fun _ _ => rfl) ?_ ?_ (by decide)
  · simp only [go_sem, reduceIte, Nat.reduceEqDiff, Nat.reduceAdd, Nat.reduceMul, Nat.reduceSub, Nat.reduceLeDiff, Nat.reduceLT, reduceCtorEq, Int.natCast_zero]
  · intro i _ hi he
    refine aw_sr rfl ?_  -- r10 @parcel.go:30
    simp only [go_sem, reduceIte, Nat.reduceEqDiff, Nat.reduceAdd, Nat.reduceMul, Nat.reduceSub, Nat.reduceLeDiff, Nat.reduceLT, reduceCtorEq, getD_map hi, eI_eq]
    refine ⟨⟨by omega, by omega, wid_map (g := eRcv) (fun _ => rfl) _⟩, ?_⟩
    intro b5 hb5
    refine aw_box1 hb5 fun B2 hs2 h5 => ?_
    have hsB2 := sub_trans hsB hs2
    have hm := List.getElem_mem hi
    generalize hgi : inp[i] = g at hm h5 ⊢
    have hnx : ∀ {k : Nat}, inpF g = 0 → firstF inpF (inp.take (i + 1)) = 0 := fun q => firstF_next hi he (by rw [hgi]; exact q)
    have hht : ¬ inpF g = 0 → firstF inpF inp = inpF g := fun q => by rw [firstF_hit hi he (by rw [hgi]; exact q), hgi]
    refine aw_seq fun K5 hK5 => ?_
    refine aw_block ?_  -- 2
    refine aw_mid (fun f' G' => FSub [(40, .bool (decide (inpF g = 3 ∧ (g.1 < 1 ∨ 3 < g.1 ∨ g.1 = 3)))), (5, .ptr b5 0), (34, .sl (inp.map eRcv) n2 .no), (35, .int .i64 ((inp.length : Nat) : Int)), (36, .int .i64 ((i : Nat) : Int))] f' ∧ G' = B2) ?_ ?_
    · -- 2 ways
      refine aw_sr rfl ?_  -- r11 @parcel.go:32
      simp only [go_sem, reduceIte, Nat.reduceEqDiff, Nat.reduceAdd, Nat.reduceMul, Nat.reduceSub, Nat.reduceLeDiff, Nat.reduceLT, reduceCtorEq, h5]
      refine aw_if rfl (fun h => ?_) (fun h => ?_)
      · refine aw_skip ⟨⟨?_, rfl, rfl, rfl, rfl⟩, rfl⟩
        show some (V.bool _) = some (V.bool _)
        refine congrArg (fun z => some (V.bool z)) ?_
        rw [h]
        simp only [Bool.or_eq_true, decide_eq_true_eq] at h
        exact (decide_eq_true ⟨by unfold inpF; rw [if_pos h], by omega⟩).symm
      · simp only [Bool.or_eq_false_iff, decide_eq_false_iff_not] at h
        refine aw_rg rfl ?_  -- r12 @parcel.go:32
        simp only [go_sem, reduceIte, Nat.reduceEqDiff, Nat.reduceAdd, Nat.reduceMul, Nat.reduceSub, Nat.reduceLeDiff, Nat.reduceLT, reduceCtorEq, h5]
        refine goH_q (fun hg => q_valzero g.2) ?_
        simp only [go_sem, reduceIte, Nat.reduceEqDiff, Nat.reduceAdd, Nat.reduceMul, Nat.reduceSub, Nat.reduceLeDiff, Nat.reduceLT, reduceCtorEq, h5]
        refine ⟨⟨?_, rfl, rfl, rfl, rfl⟩, rfl⟩
        show some (V.bool _) = some (V.bool _)
        refine congrArg (fun z => some (V.bool z)) ?_
        rw [Bool.eq_iff_iff]
        simp only [Bool.and_eq_true, Bool.not_eq_true', decide_eq_true_eq]
        unfold inpF
        rw [if_neg (by omega)]
        refine ⟨fun ⟨q1, q2⟩ => ⟨by rw [if_pos q1, if_pos q2], by omega⟩, fun ⟨q1, q2⟩ => ?_⟩
        have hk : g.1 = 3 := by omega
        refine ⟨hk, ?_⟩
        rw [if_pos hk] at q1
        by_cases hz : zeroV g.2 = false
        · exact hz
        · rw [if_neg hz] at q1; cases q1
    intro f' G' ⟨hf, hg⟩
    rw [hg]
    refine AW.of_fsub hf ?_
    refine aw_if rfl (fun h => ?_) (fun h => ?_)
    · rw [decide_eq_true_eq] at h
      refine aw_sr rfl ?_  -- r13 @parcel.go:33
      simp only [go_sem, reduceIte, Nat.reduceEqDiff, Nat.reduceAdd, Nat.reduceMul, Nat.reduceSub, Nat.reduceLeDiff, Nat.reduceLT, reduceCtorEq]
      exact aw_ret ⟨trivial, _, rfl, by rw [hE, hht (by rw [h.1]; decide), h.1]; exact Vle.refl _, hsB2⟩
    rw [decide_eq_false_iff_not] at h
    have hk : 1 ≤ g.1 ∧ g.1 ≤ 3 := by
      by_cases q : g.1 < 1 ∨ 3 < g.1
      · exact absurd ⟨by unfold inpF; rw [if_pos q], by omega⟩ h
      · omega
    refine aw_sr rfl ?_  -- r14 @parcel.go:34
    simp only [go_sem, reduceIte, Nat.reduceEqDiff, Nat.reduceAdd, Nat.reduceMul, Nat.reduceSub, Nat.reduceLeDiff, Nat.reduceLT, reduceCtorEq, h5]
    refine aw_if rfl (fun h2 => ?_) (fun h2 => ?_)
    · rw [decide_eq_true_eq] at h2
      have hf0 : inpF g = 0 := by
        have e : inpF g = if zeroV g.2 = false then 3 else 0 := by unfold inpF; rw [if_neg (by omega), if_pos h2]
        rw [e] at h ⊢
        by_cases hz : zeroV g.2 = false
        · rw [if_pos hz] at h; exact absurd ⟨rfl, by omega⟩ h
        · rw [if_neg hz]
      refine aw_exit ?_  -- 1
      refine ⟨(), hnx (k := 0) hf0, ?_, hs2⟩
      simp only [go_sem, reduceIte, Nat.reduceEqDiff, Nat.reduceAdd, Nat.reduceMul, Nat.reduceSub, Nat.reduceLeDiff, Nat.reduceLT, reduceCtorEq]
    rw [decide_eq_false_iff_not] at h2
    have hfv : inpF g = checkV g.2 := by
      unfold inpF
      rw [if_neg (by omega), if_neg h2]
    refine aw_skip (hK5 _ _ ?_)
    refine aw_sr rfl ?_  -- r15 @parcel.go:37
    simp only [go_sem, reduceIte, Nat.reduceEqDiff, Nat.reduceAdd, Nat.reduceMul, Nat.reduceSub, Nat.reduceLeDiff, Nat.reduceLT, reduceCtorEq, h5]
    refine goA_q (q_valCheck g.2 (o5 _ hm)) ?_
    simp only [go_sem, reduceIte, Nat.reduceEqDiff, Nat.reduceAdd, Nat.reduceMul, Nat.reduceSub, Nat.reduceLeDiff, Nat.reduceLT, reduceCtorEq, h5]
    refine aw_sr rfl ?_  -- r16 @parcel.go:37
    simp only [go_sem, reduceIte, Nat.reduceEqDiff, Nat.reduceAdd, Nat.reduceMul, Nat.reduceSub, Nat.reduceLeDiff, Nat.reduceLT, reduceCtorEq]
    refine aw_if rfl (fun h3 => ?_) (fun h3 => ?_)
    · have hc : ¬ checkV g.2 = 0 := by simpa using h3
      refine aw_sr rfl ?_  -- r17 @parcel.go:38
      simp only [go_sem, reduceIte, Nat.reduceEqDiff, Nat.reduceAdd, Nat.reduceMul, Nat.reduceSub, Nat.reduceLeDiff, Nat.reduceLT, reduceCtorEq]
      exact aw_ret ⟨trivial, _, rfl, by rw [hE, hht (by rw [hfv]; exact hc), hfv]; exact Vle.refl _, hsB2⟩
    have hc : checkV g.2 = 0 := by simpa using h3
    refine aw_skip ⟨(), hnx (k := 0) (by rw [hfv]; exact hc), ?_, hs2⟩
    simp only [go_sem, reduceIte, Nat.reduceEqDiff, Nat.reduceAdd, Nat.reduceMul, Nat.reduceSub, Nat.reduceLeDiff, Nat.reduceLT, reduceCtorEq]
  intro _ he
  rw [List.take_length] at he
  refine hK4 _ _ ?_
  refine aw_sr rfl ?_  -- r19 @parcel.go:41
  simp only [go_sem, reduceIte, Nat.reduceEqDiff, Nat.reduceAdd, Nat.reduceMul, Nat.reduceSub, Nat.reduceLeDiff, Nat.reduceLT, reduceCtorEq]
  exact aw_ret ⟨trivial, _, rfl, by rw [hE, he]; exact Vle.refl _, hsB⟩
end Go.Proofs.YtlgfffngojlffaaGreat

/- What is saved, as bytes. No conditions. -/
set_option linter.unusedSimpArgs false
set_option linter.unusedVariables false
namespace Go.Proofs.YtlgfffngojlffaaGreat
open Go.Proofs.YtlgfffngojlffaaGreatV
set_option maxHeartbeats 400000
set_option maxRecDepth 100000
def encR (i : Rcv) : List UInt8 := u8 i.1 :: (if i.1 = 3 then [] else encV i.2)
def encRs : List Rcv → List UInt8 | [] => [] | i :: l => encR i ++ encRs l
theorem encRs_append : ∀ a b, encRs (a ++ b) = encRs a ++ encRs b
  | [], b => rfl
  | v :: a, b => by rw [List.cons_append, encRs, encRs, encRs_append a b, List.append_assoc]
theorem encRs_succ {l : List Rcv} {i : Nat} (h : i < l.length) : encRs (l.take (i + 1)) = encRs (l.take i) ++ encR l[i] := by
  rw [List.take_succ_eq_append_getElem h, encRs_append]; simp [encRs]
theorem encRs_take_len (l : List Rcv) (i : Nat) : (encRs (l.take i)).length ≤ (encRs l).length := by
  have := encRs_append (l.take i) (l.drop i)
  rw [List.take_append_drop] at this
  rw [this, List.length_append]; omega
def encS (x : Sv) : List UInt8 := textB x.1 ++ ((natB x.2.1.1.length ++ encVs x.2.1.1) ++ (natB x.2.2.1.length ++ encRs x.2.2.1))
theorem inp_good {i : Rcv} (h : inpF i = 0) : 1 ≤ i.1 ∧ i.1 ≤ 3 ∧ (¬ i.1 = 3 → checkV i.2 = 0) ∧ (i.1 = 3 → zeroV i.2 = true) := by
  unfold inpF at h
  split at h
  · cases h
  · rename_i h1
    split at h
    · rename_i h2
      split at h
      · cases h
      · rename_i h3
        exact ⟨by omega, by omega, fun e => absurd h2 e, fun _ => by simpa using h3⟩
    · rename_i h2
      exact ⟨by omega, by omega, fun _ => h, fun e => absurd e h2⟩
theorem encR_len {i : Rcv} (ho : OkVal i.2) (h : inpF i = 0) : (encR i).length ≤ 2000001 := by
  rw [encR, List.length_cons]
  split
  · simp
  · rename_i hk
    have := enc_small ho ((inp_good h).2.2.1 hk)
    omega
theorem encRs_len : ∀ l : List Rcv, (∀ i ∈ l, OkVal i.2) → (∀ i ∈ l, inpF i = 0) → (encRs l).length ≤ l.length * 2000001
  | [], _, _ => by simp [encRs]
  | i :: l, ho, h => by
    have h1 := encR_len (ho i (by simp)) (h i (by simp))
    have h2 := encRs_len l (fun a ha => ho a (by simp [ha])) (fun a ha => h a (by simp [ha]))
    rw [encRs, List.length_append, List.length_cons]
    omega
theorem encVs_len : ∀ l : List Val, (∀ v ∈ l, OkVal v) → (∀ v ∈ l, checkV v = 0) → (encVs l).length ≤ l.length * 2000000
  | [], _, _ => by simp [encVs]
  | i :: l, ho, h => by
    have h1 := enc_small (ho i (by simp)) (h i (by simp))
    have h2 := encVs_len l (fun a ha => ho a (by simp [ha])) (fun a ha => h a (by simp [ha]))
    rw [encVs, List.length_append, List.length_cons]
    omega
theorem checkS_good {x : Sv} (h : checkS x = 0) : (1 ≤ x.1.length ∧ x.1.length ≤ 16) ∧ (x.2.1.1.length ≤ 6 ∧ x.2.2.1.length ≤ 2000) ∧ (∀ v ∈ x.2.1.1, checkV v = 0) ∧ ∀ i ∈ x.2.2.1, inpF i = 0 := by
  unfold checkS at h
  split at h
  · cases h
  · rename_i h1
    split at h
    · cases h
    · rename_i h2
      split at h
      · rename_i h3; exact absurd h h3
      · rename_i h3
        exact ⟨by omega, by omega, firstF_zero.1 (by simpa using h3), firstF_zero.1 h⟩
theorem encS_len {x : Sv} (ho : OkSv x) (h : checkS x = 0) : (encS x).length ≤ 5000000000 := by
  obtain ⟨⟨c1, c2⟩, ⟨c3, c4⟩, c5, c6⟩ := checkS_good h
  have e1 := encVs_len x.2.1.1 (fun v hv => (ho.2.2.1 v hv).1) c5
  have e2 := encRs_len x.2.2.1 (fun v hv => (ho.2.2.2.2 v hv).1) c6
  have l1 := natB_len64 (n := x.1.length) (by omega)
  have l2 := natB_len64 (n := x.2.1.1.length) (by omega)
  have l3 := natB_len64 (n := x.2.2.1.length) (by omega)
  simp only [encS, textB, List.length_append]
  have : x.2.1.1.length * 2000000 ≤ 6 * 2000000 := Nat.mul_le_mul_right _ c3
  have : x.2.2.1.length * 2000001 ≤ 2000 * 2000001 := Nat.mul_le_mul_right _ c4
  omega
theorem encS_ne (x : Sv) : encS x ≠ [] := by
  intro e
  have := congrArg List.length e
  have := natB_pos x.1.length
  simp only [encS, textB, List.length_append, List.length_nil] at *
  omega
end Go.Proofs.YtlgfffngojlffaaGreat

/- What is saved, written. No conditions. -/
set_option linter.unusedSimpArgs false
set_option linter.unusedVariables false
namespace Go.Proofs.YtlgfffngojlffaaGreat
open Go.Proofs.YtlgfffngojlffaaGreatV
set_option maxHeartbeats 400000
set_option maxRecDepth 100000
theorem a_wsaved (base : Heap) (bw : Nat) (x : Sv) (out : List UInt8) (G : Heap) (ho : OkSv x) (hc : checkS x = 0) (hol : out.length ≤ 100000000000) (hG : WOk base bw 1 (bytesV out) G) :
    ACall Tryz.prog 74 [.ptr bw 0, .agg (cSv x)] (fun _ G' => WOk base bw 1 (bytesV (out ++ encS x)) G') G := by
  have hlen := encS_len ho hc
  obtain ⟨a, ⟨st, n1⟩, inp, n2⟩ := x
  obtain ⟨o1, o2, o3, o4, o5⟩ := ho
  obtain ⟨⟨c1, c2⟩, ⟨c3, c4⟩, c5, c6⟩ := checkS_good hc
  simp only at o1 o2 o3 o4 o5 c1 c2 c3 c4 c5 c6
  have g3 : bulk = 1048576 := rfl
  simp only [encS, textB, List.length_append] at hlen
  have hlt : (textB a).length = (natB a.length).length + a.length := by simp [textB]
  refine acall_body (rs := []) Tryz.func74 rfl rfl Tryz.ntmps74 (by kernel_rfl) (Nat.le_of_ble_eq_true rfl) ?_
  refine aw_sr rfl ?_
  simp only [go_sem, reduceIte, Nat.reduceEqDiff, Nat.reduceAdd, Nat.reduceMul, Nat.reduceSub, Nat.reduceLeDiff, Nat.reduceLT, reduceCtorEq]
  intro b3 hb3
  have hp := hG.push (o := .vars (cSv (a, (st, n1), (inp, n2)))) hb3
  have hb3b := sub_none hG.old hb3
  have key : ∀ {es : List (List V)} {G1 : Heap}, WOk ((b3, .vars (cSv (a, (st, n1), (inp, n2)))) :: base) bw 1 es G1 → hget G1 b3 = some (.vars (cSv (a, (st, n1), (inp, n2)))) := fun h => h.old _ _ (hget_self _ _ _)
  have g1 := key hp
  refine aw_sr rfl ?_
  simp only [go_sem, reduceIte, Nat.reduceEqDiff, Nat.reduceAdd, Nat.reduceMul, Nat.reduceSub, Nat.reduceLeDiff, Nat.reduceLT, reduceCtorEq]
  refine goA_by (a_text _ bw a _ _ (by omega) (by simp only [List.length_append, List.length_nil]; omega) hp) fun y2 G2 w2 => ?_
  have g2 := key w2
  simp only [go_sem, reduceIte, Nat.reduceEqDiff, Nat.reduceAdd, Nat.reduceMul, Nat.reduceSub, Nat.reduceLeDiff, Nat.reduceLT, reduceCtorEq]
  refine aw_sr rfl ?_
  simp only [go_sem, reduceIte, Nat.reduceEqDiff, Nat.reduceAdd, Nat.reduceMul, Nat.reduceSub, Nat.reduceLeDiff, Nat.reduceLT, reduceCtorEq, g2]
  refine goA_by (a_values0 (a_value0 bulk) _ bw st n1 .no _ _ (fun v hv => (o3 v hv).2) (fun v hv => (o3 v hv).1) (by rw [g3]; omega) (by simp only [List.length_append, List.length_nil]; omega) w2) fun y3 G3 w3 => ?_
  have g3' := key w3
  simp only [go_sem, reduceIte, Nat.reduceEqDiff, Nat.reduceAdd, Nat.reduceMul, Nat.reduceSub, Nat.reduceLeDiff, Nat.reduceLT, reduceCtorEq]
  refine aw_sr rfl ?_
  simp only [go_sem, reduceIte, Nat.reduceEqDiff, Nat.reduceAdd, Nat.reduceMul, Nat.reduceSub, Nat.reduceLeDiff, Nat.reduceLT, reduceCtorEq, g3', wrapN (show inp.length < 2 ^ 64 by omega)]
  refine goA_by (a_natural _ bw _ _ _ (by omega) (by simp only [List.length_append, List.length_nil]; omega) w3) fun y4 G4 w4 => ?_
  have g4 := key w4
  simp only [go_sem, reduceIte, Nat.reduceEqDiff, Nat.reduceAdd, Nat.reduceMul, Nat.reduceSub, Nat.reduceLeDiff, Nat.reduceLT, reduceCtorEq]
  refine aw_sr rfl ?_
  simp only [go_sem, reduceIte, Nat.reduceEqDiff, Nat.reduceAdd, Nat.reduceMul, Nat.reduceSub, Nat.reduceLeDiff, Nat.reduceLT, reduceCtorEq, g4]
  have hin : ∀ i, (encRs (inp.take i)).length ≤ (encRs inp).length := encRs_take_len inp
  refine aw_range inp.length (S := Heap) (fun _ _ => [(0, .ptr bw 0), (21, .sl (inp.map eRcv) n2 .no)]) (fun _ H => H) (fun i H => WOk ((b3, .vars (cSv (a, (st, n1), (inp, n2)))) :: base) bw 1 (bytesV ((out ++ textB a ++ (natB st.length ++ encVs st)) ++ natB inp.length ++ encRs (inp.take i))) H) G4 (by omega) ?_ (fun _ _ h => h) ?_ rfl (fun _ _ => rfl) ?_ ?_ (by decide)
  · simp only [go_sem, reduceIte, Nat.reduceEqDiff, Nat.reduceAdd, Nat.reduceMul, Nat.reduceSub, Nat.reduceLeDiff, Nat.reduceLT, reduceCtorEq, Int.natCast_zero]
  · rw [List.take_zero, encRs, List.append_nil]; exact w4
  · intro i H hi he
    have hm := List.getElem_mem hi
    have hle := hin (i + 1)
    rw [encRs_succ hi, List.length_append] at hle
    refine aw_sr rfl ?_
    simp only [go_sem, reduceIte, Nat.reduceEqDiff, Nat.reduceAdd, Nat.reduceMul, Nat.reduceSub, Nat.reduceLeDiff, Nat.reduceLT, reduceCtorEq, getD_map hi, eI_eq]
    refine ⟨⟨by omega, by omega, wid_map (g := eRcv) (fun _ => rfl) _⟩, fun b5 hb5 => ?_⟩
    generalize hgi : inp[i] = g at hm hle hb5 ⊢
    have hkg := inp_good (c6 g hm)
    have hp5 := he.push (o := .vars (cRcv g)) hb5
    have hb5b := sub_none he.old hb5
    obtain ⟨h0, nl, t, H5, hnl, hr, hsb⟩ := hp5
    refine AW.of_hsub hsb ?_
    have hgw := hr.sub _ _ (hget_self _ _ _)
    obtain ⟨n3w, _⟩ := none_cons h0
    have hg5 : hget H5 b5 = some (.vars (cRcv g)) := hr.sub _ _ (by rw [hget_cons_ne (fun e => n3w e.symm), hget_self])
    refine aw_srd [(0,true),(1,true),(2,true),(3,true),(4,true),(5,true),(6,true),(7,true),(8,true),(9,false),(10,true),(11,true),(12,false)] mixed rfl (by kernel_rfl) ?_
    simp only [go_sem, reduceIte, Nat.reduceEqDiff, Nat.reduceAdd, Nat.reduceMul, Nat.reduceSub, Nat.reduceLeDiff, Nat.reduceLT, reduceCtorEq, hgw, hg5, one_u8]
    refine goP_room hr ?_ fun t' H' hr' => ?_
    · exact ⟨rfl, rfl, by decide, wid_bytes _, wid_bytes _, sca_bytes _, by simp; omega, by simp; omega⟩
    have hgw' := hr'.sub _ _ (hget_self _ _ _)
    simp only [go_sem, reduceIte, Nat.reduceEqDiff, Nat.reduceAdd, Nat.reduceMul, Nat.reduceSub, Nat.reduceLeDiff, Nat.reduceLT, reduceCtorEq, hgw']
    have w1 : WOk ((b5, .vars (cRcv g)) :: (b3, .vars (cSv (a, (st, n1), (inp, n2)))) :: base) bw 1 (bytesV (((out ++ textB a ++ (natB st.length ++ encVs st)) ++ natB inp.length ++ encRs (inp.take i)) ++ [u8 g.1])) (hset H' bw (.vars [.sl (bytesV (((out ++ textB a ++ (natB st.length ++ encVs st)) ++ natB inp.length ++ encRs (inp.take i)) ++ [u8 g.1])) false t'])) := ⟨h0, _, t', _, (by simp), hr'.put, fun _ _ h => h⟩
    have g5 := w1.old _ _ (hget_self _ _ _)
    have hsu : encRs (inp.take (i + 1)) = encRs (inp.take i) ++ encR g := by rw [encRs_succ hi, hgi]
    have hgl : (encR g).length = 1 + (if g.1 = 3 then [] else encV g.2).length := by rw [encR, List.length_cons]; omega
    refine aw_sr rfl ?_
    simp only [go_sem, reduceIte, Nat.reduceEqDiff, Nat.reduceAdd, Nat.reduceMul, Nat.reduceSub, Nat.reduceLeDiff, Nat.reduceLT, reduceCtorEq, g5]
    refine aw_if rfl (fun h => ?_) (fun h => ?_)
    · have hk : ¬ g.1 = 3 := by simpa using h
      rw [if_neg hk] at hgl
      refine aw_rg rfl ?_
      simp only [go_sem, reduceIte, Nat.reduceEqDiff, Nat.reduceAdd, Nat.reduceMul, Nat.reduceSub, Nat.reduceLeDiff, Nat.reduceLT, reduceCtorEq, g5]
      refine goA_by (a_value _ bw g.2 _ _ (o5 _ hm).1 (by simp only [List.length_append, List.length_cons, List.length_nil]; omega) w1) fun y6 G6 w6 => ?_
      simp only [go_sem, reduceIte, Nat.reduceEqDiff, Nat.reduceAdd, Nat.reduceMul, Nat.reduceSub, Nat.reduceLeDiff, Nat.reduceLT, reduceCtorEq]
      refine ⟨G6, ?_, ?_, sub_rfl⟩
      · have := w6.base (sub_tail hb5b)
        rw [hsu, encR, if_neg hk]
        simpa [List.append_assoc] using this
      · simp only [go_sem, reduceIte, Nat.reduceEqDiff, Nat.reduceAdd, Nat.reduceMul, Nat.reduceSub, Nat.reduceLeDiff, Nat.reduceLT, reduceCtorEq]
    · have hk : g.1 = 3 := by simpa using h
      refine aw_skip ⟨_, ?_, ?_, sub_rfl⟩
      · have := w1.base (sub_tail hb5b)
        rw [hsu, encR, if_pos hk]
        simpa [List.append_assoc] using this
      · simp only [go_sem, reduceIte, Nat.reduceEqDiff, Nat.reduceAdd, Nat.reduceMul, Nat.reduceSub, Nat.reduceLeDiff, Nat.reduceLT, reduceCtorEq]
  · intro H he
    rw [List.take_length] at he
    refine ⟨trivial, [], rfl, ?_⟩
    have := he.base (sub_tail hb3b)
    rw [encS]
    simpa [List.append_assoc] using this
end Go.Proofs.YtlgfffngojlffaaGreat

/- Parcels: what is wrong with one, the program's. No conditions but sizes. -/
set_option linter.unusedSimpArgs false
set_option linter.unusedVariables false
namespace Go.Proofs.YtlgfffngojlffaaGreat
open Go.Proofs.YtlgfffngojlffaaGreatV
set_option maxHeartbeats 400000
set_option maxRecDepth 100000
def eLt (x : Lt) : List V := cLt x
def eNo (n : Int) : List V := [.int .i64 n]
theorem wid_eNo (xs : List Int) : wid 1 (xs.map eNo) := wid_map (g := eNo) (fun _ => rfl) _
theorem wid_eLt (xs : List Lt) : wid 9 (xs.map eLt) := wid_map (g := eLt) (fun _ => rfl) _
/-- A parcel: its reference, what is saved, its box, how long it waits, who watches, links. -/
abbrev Pcl := Int × Sv × (List Lt × Bool) × Int × (List Int × Bool) × (List Int × Bool)
abbrev cPcl (x : Pcl) : List V := [.int .i64 x.1, .str x.2.1.1, .sl (x.2.1.2.1.1.map eVal) x.2.1.2.1.2 .no, .sl (x.2.1.2.2.1.map eRcv) x.2.1.2.2.2 .no, .sl (x.2.2.1.1.map eLt) x.2.2.1.2 .no, .int .i64 x.2.2.2.1, .sl (x.2.2.2.2.1.1.map eNo) x.2.2.2.2.1.2 .no, .sl (x.2.2.2.2.2.1.map eNo) x.2.2.2.2.2.2 .no]
def OkPcl (x : Pcl) : Prop := (IntKind.i64.min ≤ x.1 ∧ x.1 ≤ IntKind.i64.max) ∧ OkSv x.2.1 ∧ x.2.2.1.1.length ≤ 4194304 ∧ (∀ l ∈ x.2.2.1.1, OkLt l) ∧ (IntKind.i64.min ≤ x.2.2.2.1 ∧ x.2.2.2.1 ≤ IntKind.i64.max) ∧
  x.2.2.2.2.1.1.length ≤ 4194304 ∧ (∀ n ∈ x.2.2.2.2.1.1, IntKind.i64.min ≤ n ∧ n ≤ IntKind.i64.max) ∧ x.2.2.2.2.2.1.length ≤ 4194304 ∧ (∀ n ∈ x.2.2.2.2.2.1, IntKind.i64.min ≤ n ∧ n ≤ IntKind.i64.max)
/-- A number below 1. -/
def lowB (n : Int) : Bool := decide (n < 1)
/-- What is wrong with a parcel. -/
def checkP (x : Pcl) : Int :=
  if x.1 < 1 ∨ x.2.2.2.1 < -1 then 3
  else if 60 < x.2.2.1.1.length ∨ 1000 < x.2.2.2.2.1.1.length ∨ 1000 < x.2.2.2.2.2.1.length then 2
  else if checkS x.2.1 ≠ 0 then checkS x.2.1
  else if firstF checkL x.2.2.1.1 ≠ 0 then firstF checkL x.2.2.1.1
  else if (x.2.2.2.2.1.1.any lowB || x.2.2.2.2.2.1.any lowB) = true then 3 else 0
theorem any_take {A : Type} {q : A → Bool} {xs : List A} {i : Nat} (h : (xs.take i).any q = false) (hi : i < xs.length) (he : q xs[i] = false) : (xs.take (i + 1)).any q = false := by
  rw [List.take_succ_eq_append_getElem hi, List.any_append, h]; simp [he]
theorem any_at {A : Type} {q : A → Bool} {xs : List A} {i : Nat} (hi : i < xs.length) (he : q xs[i] = true) : xs.any q = true :=
  List.any_eq_true.2 ⟨_, List.getElem_mem hi, he⟩
theorem q_CheckParcel (x : Pcl) (ho : OkPcl x) : Quiet Tryz.prog 71 [.agg (cPcl x)] (.int .i64 (checkP x)) := by
  obtain ⟨o1, o2, o3, o4, o5, o6, o7, o8, o9⟩ := ho
  have hcs := q_CheckSaved x.2.1 o2
  refine Quiet.weak fun G => ?_
  refine acall_body (rs := [.tmp 2]) Tryz.func71 rfl rfl Tryz.ntmps71 (by kernel_rfl) (Nat.le_of_ble_eq_true rfl) ?_
  refine aw_sr rfl ?_  -- r0 @parcel.go:95
  simp only [go_sem, reduceIte, Nat.reduceEqDiff, Nat.reduceAdd, Nat.reduceMul, Nat.reduceSub, Nat.reduceLeDiff, Nat.reduceLT, reduceCtorEq]
  intro b1 hb1
  refine aw_box1 hb1 fun B1 hs1 h1 => ?_
  have hsB := hs1
  refine aw_seq fun K1 hK1 => ?_
  refine aw_sr rfl ?_  -- r1 @parcel.go:96
  simp only [go_sem, reduceIte, Nat.reduceEqDiff, Nat.reduceAdd, Nat.reduceMul, Nat.reduceSub, Nat.reduceLeDiff, Nat.reduceLT, reduceCtorEq, h1]
  refine aw_if rfl (fun h => ?_) (fun h => ?_)
  · refine aw_sr rfl ?_  -- r2 @parcel.go:97
    simp only [go_sem, reduceIte, Nat.reduceEqDiff, Nat.reduceAdd, Nat.reduceMul, Nat.reduceSub, Nat.reduceLeDiff, Nat.reduceLT, reduceCtorEq]
    refine aw_ret ⟨trivial, _, rfl, ?_, hsB⟩
    simp only [Bool.or_eq_true, decide_eq_true_eq] at h
    rw [checkP, if_pos h]
    exact Vle.refl _
  simp only [Bool.or_eq_false_iff, decide_eq_false_iff_not] at h
  have g1 : ¬ (x.1 < 1 ∨ x.2.2.2.1 < -1) := by omega
  refine aw_skip (hK1 _ _ ?_)
  refine aw_seq fun K2 hK2 => ?_
  refine aw_sr rfl ?_  -- r3 @parcel.go:99
  simp only [go_sem, reduceIte, Nat.reduceEqDiff, Nat.reduceAdd, Nat.reduceMul, Nat.reduceSub, Nat.reduceLeDiff, Nat.reduceLT, reduceCtorEq, h1]
  refine aw_if rfl (fun h => ?_) (fun h => ?_)
  · refine aw_sr rfl ?_  -- r4 @parcel.go:100
    simp only [go_sem, reduceIte, Nat.reduceEqDiff, Nat.reduceAdd, Nat.reduceMul, Nat.reduceSub, Nat.reduceLeDiff, Nat.reduceLT, reduceCtorEq]
    refine aw_ret ⟨trivial, _, rfl, ?_, hsB⟩
    simp only [Bool.or_eq_true, decide_eq_true_eq] at h
    rw [checkP, if_neg g1, if_pos (by omega)]
    exact Vle.refl _
  simp only [Bool.or_eq_false_iff, decide_eq_false_iff_not] at h
  have g2 : ¬ (60 < x.2.2.1.1.length ∨ 1000 < x.2.2.2.2.1.1.length ∨ 1000 < x.2.2.2.2.2.1.length) := by omega
  refine aw_skip (hK2 _ _ ?_)
  refine aw_seq fun K3 hK3 => ?_
  refine aw_sr rfl ?_  -- r5 @parcel.go:102
  simp only [go_sem, reduceIte, Nat.reduceEqDiff, Nat.reduceAdd, Nat.reduceMul, Nat.reduceSub, Nat.reduceLeDiff, Nat.reduceLT, reduceCtorEq, h1]
  refine goA_q hcs ?_
  simp only [go_sem, reduceIte, Nat.reduceEqDiff, Nat.reduceAdd, Nat.reduceMul, Nat.reduceSub, Nat.reduceLeDiff, Nat.reduceLT, reduceCtorEq, h1]
  refine aw_sr rfl ?_  -- r6 @parcel.go:102
  simp only [go_sem, reduceIte, Nat.reduceEqDiff, Nat.reduceAdd, Nat.reduceMul, Nat.reduceSub, Nat.reduceLeDiff, Nat.reduceLT, reduceCtorEq]
  refine aw_if rfl (fun h => ?_) (fun h => ?_)
  · refine aw_sr rfl ?_  -- r7 @parcel.go:103
    simp only [go_sem, reduceIte, Nat.reduceEqDiff, Nat.reduceAdd, Nat.reduceMul, Nat.reduceSub, Nat.reduceLeDiff, Nat.reduceLT, reduceCtorEq]
    refine aw_ret ⟨trivial, _, rfl, ?_, hsB⟩
    rw [checkP, if_neg g1, if_neg g2, if_pos (by simpa using h)]
    exact Vle.refl _
  have g3 : ¬ checkS x.2.1 ≠ 0 := by simpa using h
  refine aw_skip (hK3 _ _ ?_)
  refine aw_seq fun K4 hK4 => ?_
  refine aw_sr rfl ?_  -- r8 @parcel.go:105
  simp only [go_sem, reduceIte, Nat.reduceEqDiff, Nat.reduceAdd, Nat.reduceMul, Nat.reduceSub, Nat.reduceLeDiff, Nat.reduceLT, reduceCtorEq, h1]
  refine aw_range x.2.2.1.1.length (S := Unit) (fun i _ => [(1, .ptr b1 0), (42, .sl (x.2.2.1.1.map eLt) x.2.2.1.2 .no)]) (fun _ _ => B1) (fun i _ => firstF checkL (x.2.2.1.1.take i) = 0) () (by omega) ?_ (fun _ _ h => h) rfl rfl (fun _ _ => rfl) ?_ ?_ (by decide)
  · simp only [go_sem, reduceIte, Nat.reduceEqDiff, Nat.reduceAdd, Nat.reduceMul, Nat.reduceSub, Nat.reduceLeDiff, Nat.reduceLT, reduceCtorEq, Int.natCast_zero]
  · intro i _ hi he
    have hol := o4 _ (List.getElem_mem hi)
    have hnext := firstF_next hi he
    have hhit := firstF_hit hi he
    refine aw_sr rfl ?_  -- r10 @parcel.go:105
    simp only [go_sem, reduceIte, Nat.reduceEqDiff, Nat.reduceAdd, Nat.reduceMul, Nat.reduceSub, Nat.reduceLeDiff, Nat.reduceLT, reduceCtorEq, getD_map hi, eLt]
    refine ⟨⟨by omega, by omega, wid_eLt _⟩, ?_⟩
    generalize x.2.2.1.1[i] = l at hol hnext hhit ⊢
    intro b5 hb5
    refine aw_box1 hb5 fun B2 hs2 h5 => ?_
    refine aw_sr rfl ?_  -- r11 @parcel.go:106
    simp only [go_sem, reduceIte, Nat.reduceEqDiff, Nat.reduceAdd, Nat.reduceMul, Nat.reduceSub, Nat.reduceLeDiff, Nat.reduceLT, reduceCtorEq, h5]
    refine goA_q (q_CheckLetter l hol.2.2.2.2.2 hol.2.2.2.2.1) ?_
    simp only [go_sem, reduceIte, Nat.reduceEqDiff, Nat.reduceAdd, Nat.reduceMul, Nat.reduceSub, Nat.reduceLeDiff, Nat.reduceLT, reduceCtorEq, h5]
    refine aw_sr rfl ?_  -- r12 @parcel.go:106
    simp only [go_sem, reduceIte, Nat.reduceEqDiff, Nat.reduceAdd, Nat.reduceMul, Nat.reduceSub, Nat.reduceLeDiff, Nat.reduceLT, reduceCtorEq]
    refine aw_if rfl (fun h => ?_) (fun h => ?_)
    · refine aw_sr rfl ?_  -- r13 @parcel.go:107
      simp only [go_sem, reduceIte, Nat.reduceEqDiff, Nat.reduceAdd, Nat.reduceMul, Nat.reduceSub, Nat.reduceLeDiff, Nat.reduceLT, reduceCtorEq]
      refine aw_ret ⟨trivial, _, rfl, ?_, sub_trans hsB hs2⟩
      have h : ¬ checkL l = 0 := by simpa using h
      rw [checkP, if_neg g1, if_neg g2, if_neg g3, hhit h, if_pos h]
      exact Vle.refl _
    refine aw_skip ⟨(), hnext (by simpa using h), ?_, hs2⟩
    simp only [go_sem, reduceIte, Nat.reduceEqDiff, Nat.reduceAdd, Nat.reduceMul, Nat.reduceSub, Nat.reduceLeDiff, Nat.reduceLT, reduceCtorEq]
  intro _ he
  rw [List.take_length] at he
  have g4 : ¬ firstF checkL x.2.2.1.1 ≠ 0 := fun e => e he
  have hP : checkP x = if (x.2.2.2.2.1.1.any lowB || x.2.2.2.2.2.1.any lowB) = true then 3 else 0 := by rw [checkP, if_neg g1, if_neg g2, if_neg g3, if_neg g4]
  refine hK4 _ _ ?_
  refine aw_seq fun K5 hK5 => ?_
  refine aw_sr rfl ?_  -- r15 @parcel.go:110
  simp only [go_sem, reduceIte, Nat.reduceEqDiff, Nat.reduceAdd, Nat.reduceMul, Nat.reduceSub, Nat.reduceLeDiff, Nat.reduceLT, reduceCtorEq, h1]
  refine aw_block ?_
  refine aw_lph (S := {k : Nat // k ≤ 2 ∧ (1 ≤ k → x.2.2.2.2.1.1.any lowB = false) ∧ (2 ≤ k → x.2.2.2.2.2.1.any lowB = false)}) (fun s => [(58, .agg [.sl (x.2.2.2.2.1.1.map eNo) x.2.2.2.2.1.2 .no, .sl (x.2.2.2.2.2.1.map eNo) x.2.2.2.2.2.2 .no]), (59, .int .i64 ((s.1 : Nat) : Int))]) (fun _ => B1) (fun s => 2 - s.1) ⟨0, by omega, by omega, by omega⟩ ?_ (fun _ _ h => h) ?_
  · simp only [go_sem, reduceIte, Nat.reduceEqDiff, Nat.reduceAdd, Nat.reduceMul, Nat.reduceSub, Nat.reduceLeDiff, Nat.reduceLT, reduceCtorEq, Int.natCast_zero]
  intro ⟨k, hk, hw1, hw2⟩
  simp only at hk hw1 hw2 ⊢
  refine aw_sr rfl ?_  -- r16
  simp only [go_sem, reduceIte, Nat.reduceEqDiff, Nat.reduceAdd, Nat.reduceMul, Nat.reduceSub, Nat.reduceLeDiff, Nat.reduceLT, reduceCtorEq]
  refine aw_seq fun K6 hK6 => ?_
  refine aw_if rfl (fun h => ?_) (fun h => ?_)
  · have hk2 : k < 2 := by rw [decide_eq_true_eq] at h; omega
    refine aw_skip (hK6 _ _ ?_)
    refine aw_seq fun K7 hK7 => ?_
    refine aw_block ?_
    obtain ⟨ws, nw, hl, hnum, hget, hhit, hgo⟩ : ∃ (ws : List Int) (nw : Bool), ws.length ≤ 4194304 ∧ (∀ n ∈ ws, IntKind.i64.min ≤ n ∧ n ≤ IntKind.i64.max) ∧
        ([V.sl (x.2.2.2.2.1.1.map eNo) x.2.2.2.2.1.2 .no, .sl (x.2.2.2.2.2.1.map eNo) x.2.2.2.2.2.2 .no].getD k .any = V.sl (ws.map eNo) nw .no) ∧ (ws.any lowB = true → checkP x = 3) ∧ (ws.any lowB = false → (1 ≤ k + 1 → x.2.2.2.2.1.1.any lowB = false) ∧ (2 ≤ k + 1 → x.2.2.2.2.2.1.any lowB = false)) := by
      rcases (show k = 0 ∨ k = 1 by omega) with rfl | rfl
      · exact ⟨_, _, o6, o7, rfl, fun e => by rw [hP, e]; rfl, fun e => ⟨fun _ => e, fun e => by omega⟩⟩
      · exact ⟨_, _, o8, o9, rfl, fun e => by rw [hP, e, Bool.or_true]; rfl, fun e => ⟨fun _ => hw1 (by omega), fun _ => e⟩⟩
    refine aw_sr rfl ?_  -- r17
    simp only [go_sem, reduceIte, Nat.reduceEqDiff, Nat.reduceAdd, Nat.reduceMul, Nat.reduceSub, Nat.reduceLeDiff, Nat.reduceLT, reduceCtorEq, hget]
    refine ⟨⟨by omega, by omega⟩, ?_⟩
    refine aw_sr rfl ?_  -- r18
    simp only [go_sem, reduceIte, Nat.reduceEqDiff, Nat.reduceAdd, Nat.reduceMul, Nat.reduceSub, Nat.reduceLeDiff, Nat.reduceLT, reduceCtorEq]
    refine aw_range ws.length (S := Unit) (fun i _ => [(58, .agg [.sl (x.2.2.2.2.1.1.map eNo) x.2.2.2.2.1.2 .no, .sl (x.2.2.2.2.2.1.map eNo) x.2.2.2.2.2.2 .no]), (59, .int .i64 ((k : Nat) : Int)), (62, .sl (ws.map eNo) nw .no)]) (fun _ _ => B1) (fun i _ => (ws.take i).any lowB = false) () (by omega) ?_ (fun _ _ h => h) rfl rfl (fun _ _ => rfl) ?_ ?_ (by decide)
    · simp only [go_sem, reduceIte, Nat.reduceEqDiff, Nat.reduceAdd, Nat.reduceMul, Nat.reduceSub, Nat.reduceLeDiff, Nat.reduceLT, reduceCtorEq, Int.natCast_zero]
    · intro i _ hi he2
      refine aw_sr rfl ?_  -- r20 @parcel.go:111
      simp only [go_sem, reduceIte, Nat.reduceEqDiff, Nat.reduceAdd, Nat.reduceMul, Nat.reduceSub, Nat.reduceLeDiff, Nat.reduceLT, reduceCtorEq, getD_map hi, eNo]
      refine ⟨⟨by omega, by omega, wid_eNo _⟩, ?_⟩
      refine aw_sr rfl ?_  -- r21 @parcel.go:112
      simp only [go_sem, reduceIte, Nat.reduceEqDiff, Nat.reduceAdd, Nat.reduceMul, Nat.reduceSub, Nat.reduceLeDiff, Nat.reduceLT, reduceCtorEq]
      refine aw_if rfl (fun h => ?_) (fun h => ?_)
      · refine aw_sr rfl ?_  -- r22 @parcel.go:113
        simp only [go_sem, reduceIte, Nat.reduceEqDiff, Nat.reduceAdd, Nat.reduceMul, Nat.reduceSub, Nat.reduceLeDiff, Nat.reduceLT, reduceCtorEq]
        refine aw_ret ⟨trivial, _, rfl, ?_, hsB⟩
        rw [hhit (any_at hi h)]
        exact Vle.refl _
      refine aw_skip ⟨(), any_take he2 hi h, ?_, fun _ _ h => h⟩
      simp only [go_sem, reduceIte, Nat.reduceEqDiff, Nat.reduceAdd, Nat.reduceMul, Nat.reduceSub, Nat.reduceLeDiff, Nat.reduceLT, reduceCtorEq]
    intro _ he2
    rw [List.take_length] at he2
    refine hK7 _ _ ?_
    refine aw_rg rfl ?_  -- r24
    simp only [go_sem, reduceIte, Nat.reduceEqDiff, Nat.reduceAdd, Nat.reduceMul, Nat.reduceSub, Nat.reduceLeDiff, Nat.reduceLT, reduceCtorEq]
    obtain ⟨z1, z2⟩ := hgo he2
    refine ⟨⟨k + 1, by omega, z1, z2⟩, by show 2 - (k + 1) < 2 - k; omega, ⟨rfl, ?_⟩, sub_rfl⟩
    show some (V.int .i64 (IntKind.i64.wrap ((k : Int) + 1))) = some (V.int .i64 ((k + 1 : Nat) : Int))
    rw [wrap64 (by omega) (by omega)]; rfl
  have hk2 : k = 2 := by rw [decide_eq_false_iff_not] at h; omega
  refine aw_exit ?_
  refine hK5 _ _ ?_
  refine aw_sr rfl ?_  -- r25 @parcel.go:117
  simp only [go_sem, reduceIte, Nat.reduceEqDiff, Nat.reduceAdd, Nat.reduceMul, Nat.reduceSub, Nat.reduceLeDiff, Nat.reduceLT, reduceCtorEq]
  refine aw_ret ⟨trivial, _, rfl, ?_, hsB⟩
  rw [hP, hw1 (by omega), hw2 (by omega)]
  exact Vle.refl _
end Go.Proofs.YtlgfffngojlffaaGreat

/- Parcels: what is wrong with one, the reference's. No conditions but sizes. -/
set_option linter.unusedSimpArgs false
set_option linter.unusedVariables false
namespace Go.Proofs.YtlgfffngojlffaaGreat
open Go.Proofs.YtlgfffngojlffaaGreatV
set_option maxHeartbeats 400000
set_option maxRecDepth 100000
/-- The least number. -/
def minF : List Int → Int
  | [] => 0
  | x :: l => l.foldl (fun m y => if y < m then y else m) x
theorem minF_low : ∀ (l : List Int) (x : Int), (l.foldl (fun m y => if y < m then y else m) x < 1 ↔ x < 1 ∨ l.any lowB = true)
  | [], x => by simp
  | y :: l, x => by
    rw [List.foldl_cons, minF_low l, List.any_cons, Bool.or_eq_true]
    have : lowB y = true ↔ y < 1 := by simp [lowB]
    rw [this]
    by_cases h : y < x
    · rw [if_pos h]; constructor
      · rintro (h | h)
        · exact .inr (.inl h)
        · exact .inr (.inr h)
      · rintro (h | h | h)
        · exact .inl (by omega)
        · exact .inl h
        · exact .inr h
    · rw [if_neg h]; constructor
      · rintro (h | h)
        · exact .inl h
        · exact .inr (.inr h)
      · rintro (h | h | h)
        · exact .inl h
        · exact .inl (by omega)
        · exact .inr h
theorem minF_any {l : List Int} (h : l ≠ []) : decide (minF l < 1) = l.any lowB := by
  cases l with
  | nil => exact absurd rfl h
  | cons x l =>
    have := minF_low l x
    rw [Bool.eq_iff_iff, decide_eq_true_eq, minF, this, List.any_cons, Bool.or_eq_true]
    have : lowB x = true ↔ x < 1 := by simp [lowB]
    rw [this]
theorem q_Min (x : Int) (l : List Int) (nl : Bool) (t : Tag) (hl : l.length ≤ 4194304) : Quiet Tryz.prog 81 [.sl ((x :: l).map eNo) nl t] (.int .i64 (minF (x :: l))) := by
  refine Quiet.weak fun G => ?_
  refine acall_body (rs := [.tmp 2]) Tryz.func81 rfl rfl Tryz.ntmps81 (by kernel_rfl) (Nat.le_of_ble_eq_true rfl) ?_
  refine aw_sr rfl ?_  -- r0 @sort.go:65
  simp only [go_sem, reduceIte, Nat.reduceEqDiff, Nat.reduceAdd, Nat.reduceMul, Nat.reduceSub, Nat.reduceLeDiff, Nat.reduceLT, reduceCtorEq]
  refine aw_mid (fun f' G' => FSub [(0, .sl ((x :: l).map eNo) nl t)] f' ∧ G' = G) ?_ ?_
  · refine aw_sr rfl ?_  -- r1 @sort.go:66
    simp only [go_sem, reduceIte, Nat.reduceEqDiff, Nat.reduceAdd, Nat.reduceMul, Nat.reduceSub, Nat.reduceLeDiff, Nat.reduceLT, reduceCtorEq, List.length_cons]
    refine aw_if rfl (fun h => ?_) (fun h => ?_)
    · rw [decide_eq_true_eq] at h; omega
    · exact aw_skip ⟨rfl, rfl⟩
  intro f' G' ⟨hf, hg⟩
  rw [hg]
  refine AW.of_fsub hf ?_
  have hg0 : ((x :: l).map eNo).getD (Int.toNat 0) [] = [.int .i64 x] := rfl
  refine aw_sr rfl ?_  -- r3 @sort.go:69
  simp only [go_sem, reduceIte, Nat.reduceEqDiff, Nat.reduceAdd, Nat.reduceMul, Nat.reduceSub, Nat.reduceLeDiff, Nat.reduceLT, reduceCtorEq, hg0, List.length_cons]
  refine ⟨⟨by omega, by omega, wid_eNo _⟩, ?_⟩
  refine aw_seq fun K17 hK17 => ?_
  refine aw_sr rfl ?_  -- r4 @sort.go:70
  simp only [go_sem, reduceIte, Nat.reduceEqDiff, Nat.reduceAdd, Nat.reduceMul, Nat.reduceSub, Nat.reduceLeDiff, Nat.reduceLT, reduceCtorEq]
  refine aw_block ?_  -- 0
  refine aw_lph (S := {k : Nat // k ≤ l.length}) (fun s => [(0, .sl ((x :: l).map eNo) nl t), (3, .int .i64 ((l.take s.1).foldl (fun m y => if y < m then y else m) x)), (4, .int .i64 ((s.1 + 1 : Nat) : Int))]) (fun _ => G) (fun s => l.length - s.1) ⟨0, by omega⟩ ?_ (fun _ _ h => h) ?_
  · simp only [go_sem, reduceIte, Nat.reduceEqDiff, Nat.reduceAdd, Nat.reduceMul, Nat.reduceSub, Nat.reduceLeDiff, Nat.reduceLT, reduceCtorEq]
    exact ⟨rfl, rfl⟩
  intro ⟨k, hk⟩
  simp only at hk ⊢
  refine aw_seq fun K18 hK18 => ?_
  refine aw_sr rfl ?_  -- r5 @sort.go:70
  simp only [go_sem, reduceIte, Nat.reduceEqDiff, Nat.reduceAdd, Nat.reduceMul, Nat.reduceSub, Nat.reduceLeDiff, Nat.reduceLT, reduceCtorEq, List.length_cons]
  refine aw_if rfl (fun h => ?_) (fun h => ?_)
  · have hk2 : k < l.length := by rw [decide_eq_true_eq] at h; omega
    have hgk : ((x :: l).map eNo).getD (((k + 1 : Nat) : Int)).toNat [] = [.int .i64 l[k]] := by
      rw [Int.toNat_natCast, getD_map (by simpa using hk2), List.getElem_cons_succ]; rfl
    rw [Int.toNat_natCast] at hgk
    refine aw_skip (hK18 _ _ ?_)
    refine aw_seq fun K19 hK19 => ?_
    refine aw_block ?_  -- 1
    refine aw_rg rfl ?_  -- r7 @sort.go:71
    simp only [go_sem, reduceIte, Nat.reduceEqDiff, Nat.reduceAdd, Nat.reduceMul, Nat.reduceSub, Nat.reduceLeDiff, Nat.reduceLT, reduceCtorEq, hgk, List.length_cons, Int.toNat_natCast]
    refine ⟨⟨by omega, by omega, wid_eNo _⟩, ?_⟩
    refine hK19 _ _ ?_
    refine aw_rg rfl ?_  -- r6 @sort.go:70
    simp only [go_sem, reduceIte, Nat.reduceEqDiff, Nat.reduceAdd, Nat.reduceMul, Nat.reduceSub, Nat.reduceLeDiff, Nat.reduceLT, reduceCtorEq]
    refine ⟨⟨k + 1, by omega⟩, by show l.length - (k + 1) < l.length - k; omega, ⟨rfl, ?_, ?_⟩, sub_rfl⟩
    · show some _ = some _
      rw [List.take_succ_eq_append_getElem hk2, List.foldl_append]; rfl
    · show some (V.int .i64 (IntKind.i64.wrap (((k + 1 : Nat) : Int) + 1))) = some (V.int .i64 ((k + 1 + 1 : Nat) : Int))
      rw [wrap64 (by omega) (by omega)]; rfl
  · have hk2 : k = l.length := by rw [decide_eq_false_iff_not] at h; omega
    refine aw_exit ?_  -- 0
    refine hK17 _ _ ?_
    refine aw_sr rfl ?_  -- r8 @sort.go:73
    simp only [go_sem, reduceIte, Nat.reduceEqDiff, Nat.reduceAdd, Nat.reduceMul, Nat.reduceSub, Nat.reduceLeDiff, Nat.reduceLT, reduceCtorEq]
    refine aw_ret ⟨trivial, _, rfl, ?_, sub_rfl⟩
    rw [hk2, List.take_length]
    exact Vle.refl _
theorem q_ParcelFault (x : Pcl) (ho : OkPcl x) : Quiet Tryz.prog 47 [.agg (cPcl x)] (.int .i64 (checkP x)) := by
  obtain ⟨o1, o2, o3, o4, o5, o6, o7, o8, o9⟩ := ho
  have hcs := q_SavedFault x.2.1 o2
  refine Quiet.weak fun G => ?_
  refine acall_body (rs := [.tmp 2]) Tryz.func47 rfl rfl Tryz.ntmps47 (by kernel_rfl) (Nat.le_of_ble_eq_true rfl) ?_
  refine aw_sr rfl ?_  -- r0 @parcel.go:95
  simp only [go_sem, reduceIte, Nat.reduceEqDiff, Nat.reduceAdd, Nat.reduceMul, Nat.reduceSub, Nat.reduceLeDiff, Nat.reduceLT, reduceCtorEq]
  intro b1 hb1
  refine aw_box1 hb1 fun B1 hs1 h1 => ?_
  have hsB := hs1
  refine aw_seq fun K1 hK1 => ?_
  refine aw_sr rfl ?_  -- r1 @parcel.go:96
  simp only [go_sem, reduceIte, Nat.reduceEqDiff, Nat.reduceAdd, Nat.reduceMul, Nat.reduceSub, Nat.reduceLeDiff, Nat.reduceLT, reduceCtorEq, h1]
  refine aw_if rfl (fun h => ?_) (fun h => ?_)
  · refine aw_sr rfl ?_  -- r2 @parcel.go:97
    simp only [go_sem, reduceIte, Nat.reduceEqDiff, Nat.reduceAdd, Nat.reduceMul, Nat.reduceSub, Nat.reduceLeDiff, Nat.reduceLT, reduceCtorEq]
    refine aw_ret ⟨trivial, _, rfl, ?_, hsB⟩
    simp only [Bool.or_eq_true, decide_eq_true_eq] at h
    rw [checkP, if_pos h]
    exact Vle.refl _
  simp only [Bool.or_eq_false_iff, decide_eq_false_iff_not] at h
  have g1 : ¬ (x.1 < 1 ∨ x.2.2.2.1 < -1) := by omega
  refine aw_skip (hK1 _ _ ?_)
  refine aw_seq fun K2 hK2 => ?_
  refine aw_sr rfl ?_  -- r3 @parcel.go:99
  simp only [go_sem, reduceIte, Nat.reduceEqDiff, Nat.reduceAdd, Nat.reduceMul, Nat.reduceSub, Nat.reduceLeDiff, Nat.reduceLT, reduceCtorEq, h1]
  refine aw_if rfl (fun h => ?_) (fun h => ?_)
  · refine aw_sr rfl ?_  -- r4 @parcel.go:100
    simp only [go_sem, reduceIte, Nat.reduceEqDiff, Nat.reduceAdd, Nat.reduceMul, Nat.reduceSub, Nat.reduceLeDiff, Nat.reduceLT, reduceCtorEq]
    refine aw_ret ⟨trivial, _, rfl, ?_, hsB⟩
    simp only [Bool.or_eq_true, decide_eq_true_eq] at h
    rw [checkP, if_neg g1, if_pos (by omega)]
    exact Vle.refl _
  simp only [Bool.or_eq_false_iff, decide_eq_false_iff_not] at h
  have g2 : ¬ (60 < x.2.2.1.1.length ∨ 1000 < x.2.2.2.2.1.1.length ∨ 1000 < x.2.2.2.2.2.1.length) := by omega
  refine aw_skip (hK2 _ _ ?_)
  refine aw_seq fun K3 hK3 => ?_
  refine aw_sr rfl ?_  -- r5 @parcel.go:102
  simp only [go_sem, reduceIte, Nat.reduceEqDiff, Nat.reduceAdd, Nat.reduceMul, Nat.reduceSub, Nat.reduceLeDiff, Nat.reduceLT, reduceCtorEq, h1]
  refine goA_q hcs ?_
  simp only [go_sem, reduceIte, Nat.reduceEqDiff, Nat.reduceAdd, Nat.reduceMul, Nat.reduceSub, Nat.reduceLeDiff, Nat.reduceLT, reduceCtorEq, h1]
  refine aw_sr rfl ?_  -- r6 @parcel.go:102
  simp only [go_sem, reduceIte, Nat.reduceEqDiff, Nat.reduceAdd, Nat.reduceMul, Nat.reduceSub, Nat.reduceLeDiff, Nat.reduceLT, reduceCtorEq]
  refine aw_if rfl (fun h => ?_) (fun h => ?_)
  · refine aw_sr rfl ?_  -- r7 @parcel.go:103
    simp only [go_sem, reduceIte, Nat.reduceEqDiff, Nat.reduceAdd, Nat.reduceMul, Nat.reduceSub, Nat.reduceLeDiff, Nat.reduceLT, reduceCtorEq]
    refine aw_ret ⟨trivial, _, rfl, ?_, hsB⟩
    rw [checkP, if_neg g1, if_neg g2, if_pos (by simpa using h)]
    exact Vle.refl _
  have g3 : ¬ checkS x.2.1 ≠ 0 := by simpa using h
  refine aw_skip (hK3 _ _ ?_)
  refine aw_seq fun K4 hK4 => ?_
  refine aw_sr rfl ?_  -- r8 @parcel.go:105
  simp only [go_sem, reduceIte, Nat.reduceEqDiff, Nat.reduceAdd, Nat.reduceMul, Nat.reduceSub, Nat.reduceLeDiff, Nat.reduceLT, reduceCtorEq, h1]
  refine aw_range x.2.2.1.1.length (S := Unit) (fun i _ => [(1, .ptr b1 0), (38, .sl (x.2.2.1.1.map eLt) x.2.2.1.2 .no)]) (fun _ _ => B1) (fun i _ => firstF checkL (x.2.2.1.1.take i) = 0) () (by omega) ?_ (fun _ _ h => h) rfl rfl (fun _ _ => rfl) ?_ ?_ (by decide)
  · simp only [go_sem, reduceIte, Nat.reduceEqDiff, Nat.reduceAdd, Nat.reduceMul, Nat.reduceSub, Nat.reduceLeDiff, Nat.reduceLT, reduceCtorEq, Int.natCast_zero]
  · intro i _ hi he
    have hol := o4 _ (List.getElem_mem hi)
    have hnext := firstF_next hi he
    have hhit := firstF_hit hi he
    refine aw_sr rfl ?_  -- r10 @parcel.go:105
    simp only [go_sem, reduceIte, Nat.reduceEqDiff, Nat.reduceAdd, Nat.reduceMul, Nat.reduceSub, Nat.reduceLeDiff, Nat.reduceLT, reduceCtorEq, getD_map hi, eLt]
    refine ⟨⟨by omega, by omega, wid_eLt _⟩, ?_⟩
    generalize x.2.2.1.1[i] = l at hol hnext hhit ⊢
    intro b5 hb5
    refine aw_box1 hb5 fun B2 hs2 h5 => ?_
    refine aw_sr rfl ?_  -- r11 @parcel.go:106
    simp only [go_sem, reduceIte, Nat.reduceEqDiff, Nat.reduceAdd, Nat.reduceMul, Nat.reduceSub, Nat.reduceLeDiff, Nat.reduceLT, reduceCtorEq, h5]
    refine goA_q (q_LetterFault l hol.2.2.2.2.2 hol.2.2.2.2.1) ?_
    simp only [go_sem, reduceIte, Nat.reduceEqDiff, Nat.reduceAdd, Nat.reduceMul, Nat.reduceSub, Nat.reduceLeDiff, Nat.reduceLT, reduceCtorEq, h5]
    refine aw_sr rfl ?_  -- r12 @parcel.go:106
    simp only [go_sem, reduceIte, Nat.reduceEqDiff, Nat.reduceAdd, Nat.reduceMul, Nat.reduceSub, Nat.reduceLeDiff, Nat.reduceLT, reduceCtorEq]
    refine aw_if rfl (fun h => ?_) (fun h => ?_)
    · refine aw_sr rfl ?_  -- r13 @parcel.go:107
      simp only [go_sem, reduceIte, Nat.reduceEqDiff, Nat.reduceAdd, Nat.reduceMul, Nat.reduceSub, Nat.reduceLeDiff, Nat.reduceLT, reduceCtorEq]
      refine aw_ret ⟨trivial, _, rfl, ?_, sub_trans hsB hs2⟩
      have h : ¬ checkL l = 0 := by simpa using h
      rw [checkP, if_neg g1, if_neg g2, if_neg g3, hhit h, if_pos h]
      exact Vle.refl _
    refine aw_skip ⟨(), hnext (by simpa using h), ?_, hs2⟩
    simp only [go_sem, reduceIte, Nat.reduceEqDiff, Nat.reduceAdd, Nat.reduceMul, Nat.reduceSub, Nat.reduceLeDiff, Nat.reduceLT, reduceCtorEq]
  intro _ he
  rw [List.take_length] at he
  have g4 : ¬ firstF checkL x.2.2.1.1 ≠ 0 := fun e => e he
  have hP : checkP x = if (x.2.2.2.2.1.1.any lowB || x.2.2.2.2.2.1.any lowB) = true then 3 else 0 := by rw [checkP, if_neg g1, if_neg g2, if_neg g3, if_neg g4]
  refine hK4 _ _ ?_
  refine aw_seq fun K10 hK10 => ?_
  refine aw_sr rfl ?_  -- r15 @value.go:351
  simp only [go_sem, reduceIte, Nat.reduceEqDiff, Nat.reduceAdd, Nat.reduceMul, Nat.reduceSub, Nat.reduceLeDiff, Nat.reduceLT, reduceCtorEq, h1]
  have hmin : ∀ (ws : List Int) (nw : Bool), ws.length ≤ 4194304 → (decide ((0 : Int) < (ws.length : Int))) = true → Quiet Tryz.prog 81 [.sl (ws.map eNo) nw .no] (.int .i64 (minF ws)) := by
    intro ws nw hl hp
    cases ws with
    | nil => cases hp
    | cons a ws => exact q_Min a ws nw .no (by simp only [List.length_cons] at hl; omega)
  have hlow : ∀ ws : List Int, (decide ((0 : Int) < (ws.length : Int)) && decide (minF ws < 1)) = ws.any lowB := by
    intro ws
    cases ws with
    | nil => rfl
    | cons a ws =>
      rw [minF_any (by simp), decide_eq_true (by rw [List.length_cons]; omega), Bool.true_and]
  refine goH_q (fun hg => hmin _ _ o6 hg) ?_
  simp only [go_sem, reduceIte, Nat.reduceEqDiff, Nat.reduceAdd, Nat.reduceMul, Nat.reduceSub, Nat.reduceLeDiff, Nat.reduceLT, reduceCtorEq, h1]
  refine goH_q (fun hg => hmin _ _ o8 (by simp only [Bool.and_eq_true] at hg; exact hg.2)) ?_
  simp only [go_sem, reduceIte, Nat.reduceEqDiff, Nat.reduceAdd, Nat.reduceMul, Nat.reduceSub, Nat.reduceLeDiff, Nat.reduceLT, reduceCtorEq, h1]
  refine aw_if rfl (fun h => ?_) (fun h => ?_)
  · refine aw_sr rfl ?_  -- r16 @value.go:352
    simp only [go_sem, reduceIte, Nat.reduceEqDiff, Nat.reduceAdd, Nat.reduceMul, Nat.reduceSub, Nat.reduceLeDiff, Nat.reduceLT, reduceCtorEq]
    refine aw_ret ⟨trivial, _, rfl, ?_, hsB⟩
    rw [hlow, hlow] at h
    rw [hP, if_pos h]
    exact Vle.refl _
  rw [hlow, hlow] at h
  refine aw_skip (hK10 _ _ ?_)
  refine aw_sr rfl ?_  -- r17 @value.go:354
  simp only [go_sem, reduceIte, Nat.reduceEqDiff, Nat.reduceAdd, Nat.reduceMul, Nat.reduceSub, Nat.reduceLeDiff, Nat.reduceLT, reduceCtorEq]
  refine aw_ret ⟨trivial, _, rfl, ?_, hsB⟩
  rw [hP, if_neg (by rw [h]; decide)]
  exact Vle.refl _
end Go.Proofs.YtlgfffngojlffaaGreat

/- What is saved, as bytes: the program's, the reference's. No conditions. -/
set_option linter.unusedSimpArgs false
set_option linter.unusedVariables false
namespace Go.Proofs.YtlgfffngojlffaaGreat
open Go.Proofs.YtlgfffngojlffaaGreatV
set_option maxHeartbeats 400000
set_option maxRecDepth 100000
def savedF (x : Sv) : (List UInt8 × Bool) × Int := if checkS x ≠ 0 then (([], true), checkS x) else ((encS x, false), 0)
end Go.Proofs.YtlgfffngojlffaaGreat

/- Parcels as bytes: the program's. No conditions but sizes. -/
set_option linter.unusedSimpArgs false
set_option linter.unusedVariables false
namespace Go.Proofs.YtlgfffngojlffaaGreat
open Go.Proofs.YtlgfffngojlffaaGreatV
set_option maxHeartbeats 400000
set_option maxRecDepth 100000
def encI (l : List Int) : List UInt8 := l.flatMap (fun n => natB n.toNat)
def encNs (l : List Int) : List UInt8 := natB l.length ++ encI l
def encLs (l : List Lt) : List UInt8 := l.flatMap encL
/-- A parcel as bytes. -/
def encP (x : Pcl) : List UInt8 := natB x.1.toNat ++ (encS x.2.1 ++ ((natB x.2.2.1.1.length ++ encLs x.2.2.1.1) ++ (natB (numN x.2.2.2.1) ++ (encNs x.2.2.2.2.1.1 ++ encNs x.2.2.2.2.2.1))))
theorem encI_succ {l : List Int} {i : Nat} (h : i < l.length) : encI (l.take (i + 1)) = encI (l.take i) ++ natB (l[i]).toNat := by
  rw [encI, List.take_succ_eq_append_getElem h, List.flatMap_append]; simp [encI]
theorem encLs_succ {l : List Lt} {i : Nat} (h : i < l.length) : encLs (l.take (i + 1)) = encLs (l.take i) ++ encL l[i] := by
  rw [encLs, List.take_succ_eq_append_getElem h, List.flatMap_append]; simp [encLs]
theorem flatM_len {A : Type} {g : A → List UInt8} {m : Nat} : ∀ {xs : List A}, (∀ a ∈ xs, (g a).length ≤ m) → (xs.flatMap g).length ≤ xs.length * m
  | [], _ => by simp
  | x :: xs, h => by
    have h1 := h x (by simp)
    have h2 := flatM_len (xs := xs) (fun a ha => h a (by simp [ha]))
    rw [List.flatMap_cons, List.length_append, List.length_cons, Nat.add_mul]
    omega
theorem flatM_take {A : Type} {g : A → List UInt8} (xs : List A) (i : Nat) : ((xs.take i).flatMap g).length ≤ (xs.flatMap g).length := by
  conv => rhs; rw [← List.take_append_drop i xs, List.flatMap_append, List.length_append]
  omega
theorem nums_len {l : List Int} (h : ∀ n ∈ l, IntKind.i64.min ≤ n ∧ n ≤ IntKind.i64.max) : (encI l).length ≤ l.length * 10 :=
  flatM_len (fun n hn => natB_len64 (by have := i64_range (h n hn); omega))
theorem checkP_good {x : Pcl} (h : checkP x = 0) : (1 ≤ x.1 ∧ -1 ≤ x.2.2.2.1) ∧ (x.2.2.1.1.length ≤ 60 ∧ x.2.2.2.2.1.1.length ≤ 1000 ∧ x.2.2.2.2.2.1.length ≤ 1000) ∧ checkS x.2.1 = 0 ∧ (∀ l ∈ x.2.2.1.1, checkL l = 0) ∧ (∀ n ∈ x.2.2.2.2.1.1, 1 ≤ n) ∧ ∀ n ∈ x.2.2.2.2.2.1, 1 ≤ n := by
  unfold checkP at h
  split at h
  · cases h
  · rename_i h1
    split at h
    · cases h
    · rename_i h2
      split at h
      · rename_i h3; exact absurd h h3
      · rename_i h3
        split at h
        · rename_i h4; exact absurd h h4
        · rename_i h4
          split at h
          · cases h
          · rename_i h5
            rw [Bool.not_eq_true, Bool.or_eq_false_iff] at h5
            refine ⟨by omega, by omega, Decidable.not_not.1 h3, firstF_zero.1 (Decidable.not_not.1 h4), fun n hn => ?_, fun n hn => ?_⟩
            · have := List.any_eq_false.1 h5.1 n hn
              simp only [lowB, decide_eq_true_eq] at this; omega
            · have := List.any_eq_false.1 h5.2 n hn
              simp only [lowB, decide_eq_true_eq] at this; omega
theorem encP_lens {x : Pcl} (ho : OkPcl x) (h : checkP x = 0) : (natB x.1.toNat).length ≤ 10 ∧ (encS x.2.1).length ≤ 5000000000 ∧ (natB x.2.2.1.1.length).length ≤ 10 ∧ (encLs x.2.2.1.1).length ≤ 120600000 ∧ (natB (numN x.2.2.2.1)).length ≤ 10 ∧ (encNs x.2.2.2.2.1.1).length ≤ 10010 ∧ (encNs x.2.2.2.2.2.1).length ≤ 10010 := by
  obtain ⟨o1, o2, o3, o4, o5, o6, o7, o8, o9⟩ := ho
  obtain ⟨c1, c2, c3, c4, c5, c6⟩ := checkP_good h
  have r1 := i64_range o1
  have n1 := nums_len o7
  have n2 := nums_len o9
  have n3 := flatM_len (g := encL) (xs := x.2.2.1.1) (m := 2010000) (fun l hl => encL_len (o4 l hl) (c4 l hl))
  have m1 : x.2.2.1.1.length * 2010000 ≤ 60 * 2010000 := Nat.mul_le_mul_right _ c2.1
  have l1 := natB_len64 (n := x.2.2.2.2.1.1.length) (by omega)
  have l2 := natB_len64 (n := x.2.2.2.2.2.1.length) (by omega)
  refine ⟨natB_len64 (by omega), encS_len o2 c3, natB_len64 (by omega), Nat.le_trans n3 (by omega), natB_len64 (numN_lt o5), ?_, ?_⟩
  · rw [encNs, List.length_append]; omega
  · rw [encNs, List.length_append]; omega
theorem encP_len {x : Pcl} (ho : OkPcl x) (h : checkP x = 0) : (encP x).length ≤ 5200000000 := by
  obtain ⟨h1, h2, h3, h4, h5, h6, h7⟩ := encP_lens ho h
  simp only [encP, List.length_append]; omega
theorem encP_ne (x : Pcl) : encP x ≠ [] := by
  intro e
  have := congrArg List.length e
  have := natB_pos x.1.toNat
  simp only [encP, List.length_append, List.length_nil] at *
  omega
theorem a_wnumbers (base : Heap) (bw : Nat) (l : List Int) (nl : Bool) (out : List UInt8) (G : Heap) (ho : ∀ n ∈ l, IntKind.i64.min ≤ n ∧ n ≤ IntKind.i64.max) (hp : ∀ n ∈ l, 1 ≤ n) (hll : l.length ≤ 1000) (hol : out.length ≤ 100000000000) (hG : WOk base bw 1 (bytesV out) G) :
    ACall Tryz.prog 77 [.ptr bw 0, .sl (l.map eNo) nl .no] (fun _ G' => WOk base bw 1 (bytesV (out ++ encNs l)) G') G := by
  have hnl := nums_len ho
  have hl1 := natB_len64 (n := l.length) (by omega)
  refine acall_body (rs := []) Tryz.func77 rfl rfl Tryz.ntmps77 (by kernel_rfl) (Nat.le_of_ble_eq_true rfl) ?_
  refine aw_sr rfl ?_
  simp only [go_sem, reduceIte, Nat.reduceEqDiff, Nat.reduceAdd, Nat.reduceMul, Nat.reduceSub, Nat.reduceLeDiff, Nat.reduceLT, reduceCtorEq, wrapN (by omega : l.length < 2 ^ 64)]
  refine goA_by (a_natural base bw _ out G (by omega) (by rw [List.length_append]; omega) hG) fun y G' h => ?_
  simp only [go_sem, reduceIte, Nat.reduceEqDiff, Nat.reduceAdd, Nat.reduceMul, Nat.reduceSub, Nat.reduceLeDiff, Nat.reduceLT, reduceCtorEq]
  refine aw_sr rfl ?_
  simp only [go_sem, reduceIte, Nat.reduceEqDiff, Nat.reduceAdd, Nat.reduceMul, Nat.reduceSub, Nat.reduceLeDiff, Nat.reduceLT, reduceCtorEq]
  refine aw_range l.length (S := Heap) (fun _ _ => [(11, .sl (l.map eNo) nl .no), (0, .ptr bw 0)]) (fun _ H => H) (fun i H => WOk base bw 1 (bytesV (out ++ (natB l.length ++ encI (l.take i)))) H) G' (by omega) ?_ (fun _ _ h => h) ?_ rfl (fun _ _ => rfl) ?_ ?_ (by decide)
  · simp only [go_sem, reduceIte, Nat.reduceEqDiff, Nat.reduceAdd, Nat.reduceMul, Nat.reduceSub, Nat.reduceLeDiff, Nat.reduceLT, reduceCtorEq, Int.natCast_zero]
  · rw [List.take_zero, encI, List.flatMap_nil, List.append_nil]; exact h
  · intro i H hi he
    have hlen : (encI (l.take (i + 1))).length ≤ (encI l).length := flatM_take l (i + 1)
    rw [encI_succ hi, List.length_append] at hlen
    have hm := List.getElem_mem hi
    have r1 := i64_range (ho _ hm)
    have r2 := hp _ hm
    have hw : IntKind.u64.wrap l[i] = (((l[i]).toNat : Nat) : Int) := by rw [wrap_u64]; omega
    refine aw_sr rfl ?_
    simp only [go_sem, reduceIte, Nat.reduceEqDiff, Nat.reduceAdd, Nat.reduceMul, Nat.reduceSub, Nat.reduceLeDiff, Nat.reduceLT, reduceCtorEq, getD_map hi, eNo]
    refine ⟨⟨by omega, by omega, wid_eNo _⟩, ?_⟩
    refine aw_rg rfl ?_
    simp only [go_sem, reduceIte, Nat.reduceEqDiff, Nat.reduceAdd, Nat.reduceMul, Nat.reduceSub, Nat.reduceLeDiff, Nat.reduceLT, reduceCtorEq, hw]
    refine goA_by (a_natural _ bw _ _ _ (by omega) (by simp only [List.length_append]; omega) he) fun y2 G2 h2 => ?_
    simp only [go_sem, reduceIte, Nat.reduceEqDiff, Nat.reduceAdd, Nat.reduceMul, Nat.reduceSub, Nat.reduceLeDiff, Nat.reduceLT, reduceCtorEq]
    refine ⟨G2, ?_, ?_, fun _ _ h => h⟩
    · rw [encI_succ hi]
      simpa [List.append_assoc] using h2
    · simp only [go_sem, reduceIte, Nat.reduceEqDiff, Nat.reduceAdd, Nat.reduceMul, Nat.reduceSub, Nat.reduceLeDiff, Nat.reduceLT, reduceCtorEq]
  · intro H he
    rw [List.take_length] at he
    exact ⟨trivial, [], rfl, he⟩
def parcelF (x : Pcl) : (List UInt8 × Bool) × Int := if checkP x ≠ 0 then (([], true), checkP x) else ((encP x, false), 0)
theorem q_Parcel (x : Pcl) (ho : OkPcl x) : Quiet Tryz.prog 43 [.agg (cPcl x)] (pairB (parcelF x)) := by
  have hq := q_CheckParcel x ho
  refine Quiet.weak fun G => ?_
  refine acall_body (rs := [.tmp 2, .tmp 3]) Tryz.func43 rfl rfl Tryz.ntmps43 (by kernel_rfl) (Nat.le_of_ble_eq_true rfl) ?_
  refine aw_sr rfl ?_  -- r0 @parcel.go:138
  simp only [go_sem, reduceIte, Nat.reduceEqDiff, Nat.reduceAdd, Nat.reduceMul, Nat.reduceSub, Nat.reduceLeDiff, Nat.reduceLT, reduceCtorEq]
  intro b1 hb1
  refine aw_seq fun K11 hK11 => ?_
  refine aw_sr rfl ?_  -- r1 @parcel.go:139
  simp only [go_sem, reduceIte, Nat.reduceEqDiff, Nat.reduceAdd, Nat.reduceMul, Nat.reduceSub, Nat.reduceLeDiff, Nat.reduceLT, reduceCtorEq]
  refine goA_q hq ?_
  simp only [go_sem, reduceIte, Nat.reduceEqDiff, Nat.reduceAdd, Nat.reduceMul, Nat.reduceSub, Nat.reduceLeDiff, Nat.reduceLT, reduceCtorEq]
  refine aw_sr rfl ?_  -- r2 @parcel.go:139
  simp only [go_sem, reduceIte, Nat.reduceEqDiff, Nat.reduceAdd, Nat.reduceMul, Nat.reduceSub, Nat.reduceLeDiff, Nat.reduceLT, reduceCtorEq]
  refine aw_if rfl (fun h => ?_) (fun h => ?_)
  · refine aw_sr rfl ?_  -- r3 @parcel.go:140
    simp only [go_sem, reduceIte, Nat.reduceEqDiff, Nat.reduceAdd, Nat.reduceMul, Nat.reduceSub, Nat.reduceLeDiff, Nat.reduceLT, reduceCtorEq]
    refine aw_ret ⟨trivial, _, rfl, ?_, sub_tail hb1⟩
    rw [parcelF, if_pos (by simpa using h)]
    exact Vle.tupL (.cons Vle.untag (.cons (Vle.refl _) .nil))
  have hc : checkP x = 0 := by simpa using h
  have hlens := encP_lens ho hc
  have hlen := encP_len ho hc
  obtain ⟨o1, o2, o3, o4, o5, o6, o7, o8, o9⟩ := ho
  obtain ⟨c1, c2, c3, c4, c5, c6⟩ := checkP_good hc
  obtain ⟨e1, e2, e3, e4, e5, e6, e7⟩ := hlens
  have r1 := i64_range o1
  have hw1 : IntKind.u64.wrap x.1 = ((x.1.toNat : Nat) : Int) := by rw [wrap_u64]; omega
  refine aw_skip (hK11 _ _ ?_)
  refine aw_sr rfl ?_  -- r4 @parcel.go:142
  simp only [go_sem, reduceIte, Nat.reduceEqDiff, Nat.reduceAdd, Nat.reduceMul, Nat.reduceSub, Nat.reduceLeDiff, Nat.reduceLT, reduceCtorEq]
  intro b5 hb5
  refine aw_sr rfl ?_  -- r5 @parcel.go:143
  obtain ⟨n51, n5⟩ := fresh_cons hb5
  simp only [go_sem, reduceIte, Nat.reduceEqDiff, Nat.reduceAdd, Nat.reduceMul, Nat.reduceSub, Nat.reduceLeDiff, Nat.reduceLT, reduceCtorEq, n51, hw1]
  have w0 : WOk ((b1, .vars (cPcl x)) :: G) b5 1 (bytesV []) ((b5, .vars [.sl [] true .full]) :: (b1, .vars (cPcl x)) :: G) := ⟨hb5, true, .full, _, fun _ => rfl, Room.start _ _, sub_rfl⟩
  have key : ∀ {es : List (List V)} {G1 : Heap}, WOk ((b1, .vars (cPcl x)) :: G) b5 1 es G1 → hget G1 b1 = some (.vars (cPcl x)) := fun h => h.old _ _ (hget_self _ _ _)
  refine goA_by (a_natural _ b5 _ [] _ (by omega) (by rw [List.nil_append]; omega) w0) fun y G2 w1 => ?_
  rw [List.nil_append] at w1
  have k1 := key w1
  simp only [go_sem, reduceIte, Nat.reduceEqDiff, Nat.reduceAdd, Nat.reduceMul, Nat.reduceSub, Nat.reduceLeDiff, Nat.reduceLT, reduceCtorEq]
  refine aw_sr rfl ?_  -- r6
  simp only [go_sem, reduceIte, Nat.reduceEqDiff, Nat.reduceAdd, Nat.reduceMul, Nat.reduceSub, Nat.reduceLeDiff, Nat.reduceLT, reduceCtorEq, k1]
  refine goA_by (a_wsaved _ b5 x.2.1 _ _ o2 c3 (by omega) w1) fun y G3 w2 => ?_
  have k2 := key w2
  simp only [go_sem, reduceIte, Nat.reduceEqDiff, Nat.reduceAdd, Nat.reduceMul, Nat.reduceSub, Nat.reduceLeDiff, Nat.reduceLT, reduceCtorEq]
  refine aw_sr rfl ?_  -- r7
  simp only [go_sem, reduceIte, Nat.reduceEqDiff, Nat.reduceAdd, Nat.reduceMul, Nat.reduceSub, Nat.reduceLeDiff, Nat.reduceLT, reduceCtorEq, k2, wrapN (show x.2.2.1.1.length < 2 ^ 64 by omega)]
  refine goA_by (a_natural _ b5 _ _ _ (by omega) (by simp only [List.length_append]; omega) w2) fun y G4 w3 => ?_
  have k3 := key w3
  simp only [go_sem, reduceIte, Nat.reduceEqDiff, Nat.reduceAdd, Nat.reduceMul, Nat.reduceSub, Nat.reduceLeDiff, Nat.reduceLT, reduceCtorEq]
  refine aw_seq fun K12 hK12 => ?_
  refine aw_sr rfl ?_  -- r8 @parcel.go:146
  simp only [go_sem, reduceIte, Nat.reduceEqDiff, Nat.reduceAdd, Nat.reduceMul, Nat.reduceSub, Nat.reduceLeDiff, Nat.reduceLT, reduceCtorEq, k3]
  refine aw_range x.2.2.1.1.length (S := Heap) (fun i _ => [(1, .ptr b1 0), (5, .ptr b5 0), (31, .sl (x.2.2.1.1.map eLt) x.2.2.1.2 .no)]) (fun _ H => H) (fun i H => WOk ((b1, .vars (cPcl x)) :: G) b5 1 (bytesV (natB x.1.toNat ++ encS x.2.1 ++ natB x.2.2.1.1.length ++ encLs (x.2.2.1.1.take i))) H) G4 (by omega) ?_ (fun _ _ h => h) ?_ rfl (fun _ _ => rfl) ?_ ?_ (by decide)
  · simp only [go_sem, reduceIte, Nat.reduceEqDiff, Nat.reduceAdd, Nat.reduceMul, Nat.reduceSub, Nat.reduceLeDiff, Nat.reduceLT, reduceCtorEq, Int.natCast_zero]
  · rw [List.take_zero, encLs, List.flatMap_nil, List.append_nil]; exact w3
  · intro i H hi he
    have hle : (encLs (x.2.2.1.1.take i)).length ≤ (encLs x.2.2.1.1).length := flatM_take _ i
    have hsu := encLs_succ hi
    have hm := List.getElem_mem hi
    have hol := o4 _ hm
    have hcl := c4 _ hm
    refine aw_sr rfl ?_  -- r10 @parcel.go:146
    simp only [go_sem, reduceIte, Nat.reduceEqDiff, Nat.reduceAdd, Nat.reduceMul, Nat.reduceSub, Nat.reduceLeDiff, Nat.reduceLT, reduceCtorEq, getD_map hi, eLt]
    refine ⟨⟨by omega, by omega, wid_eLt _⟩, fun b7 hb7 => ?_⟩
    generalize x.2.2.1.1[i] = l at hsu hol hcl hb7 ⊢
    have hp := he.push (o := .vars (cLt l)) hb7
    refine aw_rg rfl ?_  -- r11 @parcel.go:147
    simp only [go_sem, reduceIte, Nat.reduceEqDiff, Nat.reduceAdd, Nat.reduceMul, Nat.reduceSub, Nat.reduceLeDiff, Nat.reduceLT, reduceCtorEq]
    refine goA_by (a_wletter _ b5 l _ _ hol hcl (by simp only [List.length_append]; omega) hp) fun y2 G5 h2 => ?_
    simp only [go_sem, reduceIte, Nat.reduceEqDiff, Nat.reduceAdd, Nat.reduceMul, Nat.reduceSub, Nat.reduceLeDiff, Nat.reduceLT, reduceCtorEq]
    refine ⟨G5, ?_, ?_, fun _ _ h => h⟩
    · have hb := h2.base (sub_tail (sub_none he.old hb7))
      rw [hsu]
      simpa [List.append_assoc] using hb
    · simp only [go_sem, reduceIte, Nat.reduceEqDiff, Nat.reduceAdd, Nat.reduceMul, Nat.reduceSub, Nat.reduceLeDiff, Nat.reduceLT, reduceCtorEq]
  intro H w4
  rw [List.take_length] at w4
  have k4 := key w4
  refine hK12 _ _ ?_
  refine aw_sr rfl ?_  -- r13 @parcel.go:149
  simp only [go_sem, reduceIte, Nat.reduceEqDiff, Nat.reduceAdd, Nat.reduceMul, Nat.reduceSub, Nat.reduceLeDiff, Nat.reduceLT, reduceCtorEq, k4]
  refine goA_by (a_num _ b5 _ _ _ o5 (by simp only [List.length_append]; omega) w4) fun y G5 w5 => ?_
  have k5 := key w5
  simp only [go_sem, reduceIte, Nat.reduceEqDiff, Nat.reduceAdd, Nat.reduceMul, Nat.reduceSub, Nat.reduceLeDiff, Nat.reduceLT, reduceCtorEq]
  refine aw_sr rfl ?_  -- r14 @parcel.go:150
  simp only [go_sem, reduceIte, Nat.reduceEqDiff, Nat.reduceAdd, Nat.reduceMul, Nat.reduceSub, Nat.reduceLeDiff, Nat.reduceLT, reduceCtorEq, k5]
  refine goA_by (a_wnumbers _ b5 _ _ _ _ o7 c5 (by omega) (by simp only [List.length_append]; omega) w5) fun y G6 w6 => ?_
  have k6 := key w6
  simp only [go_sem, reduceIte, Nat.reduceEqDiff, Nat.reduceAdd, Nat.reduceMul, Nat.reduceSub, Nat.reduceLeDiff, Nat.reduceLT, reduceCtorEq]
  refine aw_sr rfl ?_  -- r15 @parcel.go:151
  simp only [go_sem, reduceIte, Nat.reduceEqDiff, Nat.reduceAdd, Nat.reduceMul, Nat.reduceSub, Nat.reduceLeDiff, Nat.reduceLT, reduceCtorEq, k6]
  refine goA_by (a_wnumbers _ b5 _ _ _ _ o9 c6 (by omega) (by simp only [List.length_append]; omega) w6) fun y G7 w7 => ?_
  simp only [go_sem, reduceIte, Nat.reduceEqDiff, Nat.reduceAdd, Nat.reduceMul, Nat.reduceSub, Nat.reduceLeDiff, Nat.reduceLT, reduceCtorEq]
  have hold := w7.old
  have hE : natB x.1.toNat ++ encS x.2.1 ++ natB x.2.2.1.1.length ++ encLs x.2.2.1.1 ++ natB (numN x.2.2.2.1) ++ encNs x.2.2.2.2.1.1 ++ encNs x.2.2.2.2.2.1 = encP x := by
    rw [encP]; simp only [List.append_assoc]
  rw [hE] at w7
  obtain ⟨h0, nl, t, H7, hnl, hr, hsb⟩ := w7
  have hgw : hget G7 b5 = some (.vars [.sl (bytesV (encP x)) nl t]) := hsb _ _ (hr.sub _ _ (hget_self _ _ _))
  have hnf : nl = false := by
    cases nl with
    | false => rfl
    | true => have e := congrArg List.length (hnl rfl); rw [length_bytesV] at e; exact absurd (List.eq_nil_of_length_eq_zero e) (encP_ne x)
  refine aw_sr rfl ?_  -- r16
  simp only [go_sem, reduceIte, Nat.reduceEqDiff, Nat.reduceAdd, Nat.reduceMul, Nat.reduceSub, Nat.reduceLeDiff, Nat.reduceLT, reduceCtorEq, hgw]
  refine goA_q (q_Clone (encP x) nl t (by omega) (fun e => by rw [hnf] at e; cases e)) ?_
  simp only [go_sem, reduceIte, Nat.reduceEqDiff, Nat.reduceAdd, Nat.reduceMul, Nat.reduceSub, Nat.reduceLeDiff, Nat.reduceLT, reduceCtorEq]
  refine aw_ret ⟨trivial, _, rfl, ?_, sub_trans (sub_tail hb1) hold⟩
  rw [parcelF, if_neg (by simpa using hc), hnf]
  exact Vle.refl _
end Go.Proofs.YtlgfffngojlffaaGreat

/- What is saved, as bytes: the reference's. No conditions. -/
set_option linter.unusedSimpArgs false
set_option linter.unusedVariables false
namespace Go.Proofs.YtlgfffngojlffaaGreat
open Go.Proofs.YtlgfffngojlffaaGreatV
set_option maxHeartbeats 400000
set_option maxRecDepth 100000
theorem q_savedText (x : Sv) (ho : OkSv x) (hc : checkS x = 0) : Quiet Tryz.prog 50 [.agg (cSv x)] (.str (encS x)) := by
  have hlen := encS_len ho hc
  obtain ⟨a, ⟨st, n1⟩, inp, n2⟩ := x
  obtain ⟨o1, o2, o3, o4, o5⟩ := ho
  obtain ⟨⟨c1, c2⟩, ⟨c3, c4⟩, c5, c6⟩ := checkS_good hc
  simp only at o1 o2 o3 o4 o5 c1 c2 c3 c4 c5 c6
  have g3 : bulk = 1048576 := rfl
  simp only [encS, textB, List.length_append] at hlen
  have hvs : ∀ i, (encVs (st.take i)).length ≤ (encVs st).length := encVs_take_len st
  have hin : ∀ i, (encRs (inp.take i)).length ≤ (encRs inp).length := encRs_take_len inp
  have w1 := wrapN (show a.length < 2 ^ 64 by omega)
  have w2 := wrapN (show st.length < 2 ^ 64 by omega)
  have w3 := wrapN (show inp.length < 2 ^ 64 by omega)
  refine Quiet.weak fun G => ?_
  refine acall_body (rs := [.tmp 2]) Tryz.func50 rfl rfl Tryz.ntmps50 (by kernel_rfl) (Nat.le_of_ble_eq_true rfl) ?_
  refine aw_sr rfl ?_  -- r0 @value.go:285
  simp only [go_sem, reduceIte, Nat.reduceEqDiff, Nat.reduceAdd, Nat.reduceMul, Nat.reduceSub, Nat.reduceLeDiff, Nat.reduceLT, reduceCtorEq]
  intro b1 hb1
  refine aw_box1 hb1 fun B1 hs1 h1 => ?_
  have hsB := hs1
  refine aw_srd [(0,true),(1,true),(2,true),(3,true),(4,true),(5,true),(6,true),(7,true),(8,true),(9,true),(10,true),(11,true),(12,true),(13,true),(14,true)] mixed rfl (by kernel_rfl) ?_  -- r1 @value.go:286
  simp only [go_sem, reduceIte, Nat.reduceEqDiff, Nat.reduceAdd, Nat.reduceMul, Nat.reduceSub, Nat.reduceLeDiff, Nat.reduceLT, reduceCtorEq, h1, w1, w2]
  refine goQ_by (q_refnat a.length (by omega)) ?_
  simp only [go_sem, reduceIte, Nat.reduceEqDiff, Nat.reduceAdd, Nat.reduceMul, Nat.reduceSub, Nat.reduceLeDiff, Nat.reduceLT, reduceCtorEq, h1, w1, w2]
  refine ⟨by first | omega | (simp only [List.length_append, List.length_cons, List.length_nil]; omega), ?_⟩
  refine goQ_by (q_refnat st.length (by omega)) ?_
  simp only [go_sem, reduceIte, Nat.reduceEqDiff, Nat.reduceAdd, Nat.reduceMul, Nat.reduceSub, Nat.reduceLeDiff, Nat.reduceLT, reduceCtorEq, h1]
  refine ⟨by first | omega | (simp only [List.length_append, List.length_cons, List.length_nil]; omega), ?_⟩
  refine aw_seq fun K1 hK1 => ?_
  refine aw_sr rfl ?_  -- r2 @value.go:287
  simp only [go_sem, reduceIte, Nat.reduceEqDiff, Nat.reduceAdd, Nat.reduceMul, Nat.reduceSub, Nat.reduceLeDiff, Nat.reduceLT, reduceCtorEq, h1]
  refine aw_range st.length (S := Unit) (fun i _ => [(1, .ptr b1 0), (3, .str (natB a.length ++ a ++ natB st.length ++ encVs (st.take i))), (23, .sl (st.map eVal) n1 .no)]) (fun _ _ => B1) (fun i _ => True) () (by omega) ?_ (fun _ _ h => h) trivial rfl (fun _ _ => rfl) ?_ ?_ (by decide)
  · simp only [go_sem, reduceIte, Nat.reduceEqDiff, Nat.reduceAdd, Nat.reduceMul, Nat.reduceSub, Nat.reduceLeDiff, Nat.reduceLT, reduceCtorEq, Int.natCast_zero, List.take_zero, encVs, List.append_nil]
  · intro i _ hi he
    have hle := hvs (i + 1)
    rw [encVs_succ hi, List.length_append] at hle
    refine aw_sr rfl ?_  -- r4 @value.go:287
    simp only [go_sem, reduceIte, Nat.reduceEqDiff, Nat.reduceAdd, Nat.reduceMul, Nat.reduceSub, Nat.reduceLeDiff, Nat.reduceLT, reduceCtorEq, getD_map hi, eC]
    refine ⟨⟨by omega, by omega, wid_eVal _⟩, ?_⟩
    intro b5 hb5
    refine aw_box1 hb5 fun B2 hs2 h5 => ?_
    refine aw_rg rfl ?_  -- r5 @value.go:288
    simp only [go_sem, reduceIte, Nat.reduceEqDiff, Nat.reduceAdd, Nat.reduceMul, Nat.reduceSub, Nat.reduceLeDiff, Nat.reduceLT, reduceCtorEq, h5]
    refine goA_q (q_valueText0 _ st[i] (Nat.le_refl _) (o3 _ (List.getElem_mem hi)).1 (by omega)) ?_
    simp only [go_sem, reduceIte, Nat.reduceEqDiff, Nat.reduceAdd, Nat.reduceMul, Nat.reduceSub, Nat.reduceLeDiff, Nat.reduceLT, reduceCtorEq, h5]
    refine ⟨by simp only [List.length_append]; omega, (), ?_, hs2⟩
    simp only [go_sem, reduceIte, Nat.reduceEqDiff, Nat.reduceAdd, Nat.reduceMul, Nat.reduceSub, Nat.reduceLeDiff, Nat.reduceLT, reduceCtorEq, encVs_succ hi, List.append_assoc]
  intro _ he
  rw [List.take_length]
  refine hK1 _ _ ?_
  refine aw_sr rfl ?_  -- r7 @value.go:290
  simp only [go_sem, reduceIte, Nat.reduceEqDiff, Nat.reduceAdd, Nat.reduceMul, Nat.reduceSub, Nat.reduceLeDiff, Nat.reduceLT, reduceCtorEq, h1, w3]
  refine goA_q (q_refnat inp.length (by omega)) ?_
  simp only [go_sem, reduceIte, Nat.reduceEqDiff, Nat.reduceAdd, Nat.reduceMul, Nat.reduceSub, Nat.reduceLeDiff, Nat.reduceLT, reduceCtorEq, h1]
  refine ⟨by simp only [List.length_append]; omega, ?_⟩
  refine aw_seq fun K2 hK2 => ?_
  refine aw_sr rfl ?_  -- r8 @value.go:291
  simp only [go_sem, reduceIte, Nat.reduceEqDiff, Nat.reduceAdd, Nat.reduceMul, Nat.reduceSub, Nat.reduceLeDiff, Nat.reduceLT, reduceCtorEq, h1]
  refine aw_range inp.length (S := Unit) (fun i _ => [(3, .str (natB a.length ++ a ++ natB st.length ++ encVs st ++ natB inp.length ++ encRs (inp.take i))), (42, .sl (inp.map eRcv) n2 .no)]) (fun _ _ => B1) (fun i _ => True) () (by omega) ?_ (fun _ _ h => h) trivial rfl (fun _ _ => rfl) ?_ ?_ (by decide)
  · simp only [go_sem, reduceIte, Nat.reduceEqDiff, Nat.reduceAdd, Nat.reduceMul, Nat.reduceSub, Nat.reduceLeDiff, Nat.reduceLT, reduceCtorEq, Int.natCast_zero, List.take_zero, encRs, List.append_nil]
  · intro i _ hi he
    have hm := List.getElem_mem hi
    have hle := hin (i + 1)
    have hsu := encRs_succ hi
    rw [hsu, List.length_append] at hle
    refine aw_sr rfl ?_  -- r10 @value.go:291
    simp only [go_sem, reduceIte, Nat.reduceEqDiff, Nat.reduceAdd, Nat.reduceMul, Nat.reduceSub, Nat.reduceLeDiff, Nat.reduceLT, reduceCtorEq, getD_map hi, eI_eq]
    refine ⟨⟨by omega, by omega, wid_map (g := eRcv) (fun _ => rfl) _⟩, ?_⟩
    intro b7 hb7
    refine aw_box1 hb7 fun B2 hs2 h7 => ?_
    generalize hgi : inp[i] = g at hm h7 hle hsu ⊢
    have hkg := inp_good (c6 g hm)
    have hgl : (encR g).length = 1 + (if g.1 = 3 then [] else encV g.2).length := by rw [encR, List.length_cons]; omega
    refine aw_sr rfl ?_  -- r11 @value.go:292
    simp only [go_sem, reduceIte, Nat.reduceEqDiff, Nat.reduceAdd, Nat.reduceMul, Nat.reduceSub, Nat.reduceLeDiff, Nat.reduceLT, reduceCtorEq, h7, one_u8]
    refine ⟨by simp only [List.length_append, List.length_cons, List.length_nil]; omega, ?_⟩
    refine aw_sr rfl ?_  -- r12 @value.go:293
    simp only [go_sem, reduceIte, Nat.reduceEqDiff, Nat.reduceAdd, Nat.reduceMul, Nat.reduceSub, Nat.reduceLeDiff, Nat.reduceLT, reduceCtorEq, h7]
    refine aw_if rfl (fun h => ?_) (fun h => ?_)
    · rw [decide_eq_true_eq] at h
      have hk : ¬ g.1 = 3 := by omega
      rw [if_neg hk] at hgl
      refine aw_rg rfl ?_  -- r13 @value.go:294
      simp only [go_sem, reduceIte, Nat.reduceEqDiff, Nat.reduceAdd, Nat.reduceMul, Nat.reduceSub, Nat.reduceLeDiff, Nat.reduceLT, reduceCtorEq, h7]
      refine goA_q (q_valueText0 _ g.2 (Nat.le_refl _) (o5 _ hm).1 (by omega)) ?_
      simp only [go_sem, reduceIte, Nat.reduceEqDiff, Nat.reduceAdd, Nat.reduceMul, Nat.reduceSub, Nat.reduceLeDiff, Nat.reduceLT, reduceCtorEq, h7]
      refine ⟨by simp only [List.length_append, List.length_cons, List.length_nil]; omega, (), ?_, hs2⟩
      simp only [go_sem, reduceIte, Nat.reduceEqDiff, Nat.reduceAdd, Nat.reduceMul, Nat.reduceSub, Nat.reduceLeDiff, Nat.reduceLT, reduceCtorEq, hsu, encR, if_neg hk, List.append_assoc, List.cons_append, List.nil_append]
    · rw [decide_eq_false_iff_not] at h
      have hk : g.1 = 3 := by omega
      refine aw_skip ⟨(), ?_, hs2⟩
      simp only [go_sem, reduceIte, Nat.reduceEqDiff, Nat.reduceAdd, Nat.reduceMul, Nat.reduceSub, Nat.reduceLeDiff, Nat.reduceLT, reduceCtorEq, hsu, encR, if_pos hk, List.append_assoc]
  intro _ he
  rw [List.take_length]
  refine hK2 _ _ ?_
  refine aw_sr rfl ?_  -- r15 @value.go:297
  simp only [go_sem, reduceIte, Nat.reduceEqDiff, Nat.reduceAdd, Nat.reduceMul, Nat.reduceSub, Nat.reduceLeDiff, Nat.reduceLT, reduceCtorEq]
  refine aw_ret ⟨trivial, _, rfl, ?_, hsB⟩
  rw [encS]
  simp only [textB, List.append_assoc]
  exact Vle.refl _
end Go.Proofs.YtlgfffngojlffaaGreat

/- Parcels as bytes: the reference's. No conditions but sizes. -/
set_option linter.unusedSimpArgs false
set_option linter.unusedVariables false
namespace Go.Proofs.YtlgfffngojlffaaGreat
open Go.Proofs.YtlgfffngojlffaaGreatV
set_option maxHeartbeats 400000
set_option maxRecDepth 100000
def twoN (a b : List Int) : Nat → List UInt8
  | 0 => []
  | 1 => encNs a
  | _ + 2 => encNs a ++ encNs b
theorem wid_pair (a b : V) : wid 1 [[a], [b]] := by
  intro e he
  rcases List.mem_cons.1 he with rfl | he
  · rfl
  · rw [List.mem_singleton.1 he]; rfl
theorem q_ParcelBytes (x : Pcl) (ho : OkPcl x) : Quiet Tryz.prog 24 [.agg (cPcl x)] (pairB (parcelF x)) := by
  have hq := q_ParcelFault x ho
  refine Quiet.weak fun G => ?_
  refine acall_body (rs := [.tmp 2, .tmp 3]) Tryz.func24 rfl rfl Tryz.ntmps24 (by kernel_rfl) (Nat.le_of_ble_eq_true rfl) ?_
  refine aw_sr rfl ?_  -- r0 @value.go:358
  simp only [go_sem, reduceIte, Nat.reduceEqDiff, Nat.reduceAdd, Nat.reduceMul, Nat.reduceSub, Nat.reduceLeDiff, Nat.reduceLT, reduceCtorEq]
  intro b1 hb1
  refine aw_box1 hb1 fun B1 hs1 h1 => ?_
  have hsB := hs1
  refine aw_seq fun K13 hK13 => ?_
  refine aw_sr rfl ?_  -- r1 @value.go:359
  simp only [go_sem, reduceIte, Nat.reduceEqDiff, Nat.reduceAdd, Nat.reduceMul, Nat.reduceSub, Nat.reduceLeDiff, Nat.reduceLT, reduceCtorEq, h1]
  refine goA_q hq ?_
  simp only [go_sem, reduceIte, Nat.reduceEqDiff, Nat.reduceAdd, Nat.reduceMul, Nat.reduceSub, Nat.reduceLeDiff, Nat.reduceLT, reduceCtorEq, h1]
  refine aw_sr rfl ?_  -- r2 @value.go:359
  simp only [go_sem, reduceIte, Nat.reduceEqDiff, Nat.reduceAdd, Nat.reduceMul, Nat.reduceSub, Nat.reduceLeDiff, Nat.reduceLT, reduceCtorEq]
  refine aw_if rfl (fun h => ?_) (fun h => ?_)
  · refine aw_sr rfl ?_  -- r3 @value.go:360
    simp only [go_sem, reduceIte, Nat.reduceEqDiff, Nat.reduceAdd, Nat.reduceMul, Nat.reduceSub, Nat.reduceLeDiff, Nat.reduceLT, reduceCtorEq]
    refine aw_ret ⟨trivial, _, rfl, ?_, hsB⟩
    rw [parcelF, if_pos (by simpa using h)]
    exact Vle.tupL (.cons Vle.untag (.cons (Vle.refl _) .nil))
  have hc : checkP x = 0 := by simpa using h
  have hlens := encP_lens ho hc
  obtain ⟨o1, o2, o3, o4, o5, o6, o7, o8, o9⟩ := ho
  obtain ⟨c1, c2, c3, c4, c5, c6⟩ := checkP_good hc
  obtain ⟨e1, e2, e3, e4, e5, e6, e7⟩ := hlens
  have r1 := i64_range o1
  have hw1 : IntKind.u64.wrap x.1 = ((x.1.toNat : Nat) : Int) := by rw [wrap_u64]; omega
  have hw2 := wrapN (show x.2.2.1.1.length < 2 ^ 64 by omega)
  refine aw_skip (hK13 _ _ ?_)
  refine aw_srd [(0,true),(1,true),(2,true),(3,true),(4,true),(5,true),(6,true),(7,true),(8,true),(9,true),(10,true),(11,true),(12,true),(13,true),(14,true)] mixed rfl (by kernel_rfl) ?_  -- r4 @value.go:362
  simp only [go_sem, reduceIte, Nat.reduceEqDiff, Nat.reduceAdd, Nat.reduceMul, Nat.reduceSub, Nat.reduceLeDiff, Nat.reduceLT, reduceCtorEq, h1, hw1, hw2]
  refine goQ_by (q_refnat _ (by omega)) ?_
  simp only [go_sem, reduceIte, Nat.reduceEqDiff, Nat.reduceAdd, Nat.reduceMul, Nat.reduceSub, Nat.reduceLeDiff, Nat.reduceLT, reduceCtorEq, h1, hw1, hw2]
  refine goQ_by (q_savedText x.2.1 o2 c3) ?_
  simp only [go_sem, reduceIte, Nat.reduceEqDiff, Nat.reduceAdd, Nat.reduceMul, Nat.reduceSub, Nat.reduceLeDiff, Nat.reduceLT, reduceCtorEq, h1, hw1, hw2]
  refine ⟨by first | omega | (simp only [List.length_append]; omega), ?_⟩
  refine goQ_by (q_refnat _ (by omega)) ?_
  simp only [go_sem, reduceIte, Nat.reduceEqDiff, Nat.reduceAdd, Nat.reduceMul, Nat.reduceSub, Nat.reduceLeDiff, Nat.reduceLT, reduceCtorEq, h1]
  refine ⟨by first | omega | (simp only [List.length_append]; omega), ?_⟩
  refine aw_seq fun K14 hK14 => ?_
  refine aw_sr rfl ?_  -- r5 @value.go:363
  simp only [go_sem, reduceIte, Nat.reduceEqDiff, Nat.reduceAdd, Nat.reduceMul, Nat.reduceSub, Nat.reduceLeDiff, Nat.reduceLT, reduceCtorEq, h1]
  refine aw_range x.2.2.1.1.length (S := Unit) (fun i _ => [(1, .ptr b1 0), (5, .str (natB x.1.toNat ++ encS x.2.1 ++ natB x.2.2.1.1.length ++ encLs (x.2.2.1.1.take i))), (32, .sl (x.2.2.1.1.map eLt) x.2.2.1.2 .no)]) (fun _ _ => B1) (fun i _ => True) () (by omega) ?_ (fun _ _ h => h) trivial rfl (fun _ _ => rfl) ?_ ?_ (by decide)
  · simp only [go_sem, reduceIte, Nat.reduceEqDiff, Nat.reduceAdd, Nat.reduceMul, Nat.reduceSub, Nat.reduceLeDiff, Nat.reduceLT, reduceCtorEq, Int.natCast_zero, List.take_zero, encLs, List.flatMap_nil, List.append_nil]
  · intro i _ hi he
    have hle : (encLs (x.2.2.1.1.take (i + 1))).length ≤ (encLs x.2.2.1.1).length := flatM_take _ (i + 1)
    have hsu := encLs_succ hi
    rw [hsu, List.length_append] at hle
    have hm := List.getElem_mem hi
    have hol := o4 _ hm
    have hcl := c4 _ hm
    refine aw_sr rfl ?_  -- r7 @value.go:363
    simp only [go_sem, reduceIte, Nat.reduceEqDiff, Nat.reduceAdd, Nat.reduceMul, Nat.reduceSub, Nat.reduceLeDiff, Nat.reduceLT, reduceCtorEq, getD_map hi, eLt]
    refine ⟨⟨by omega, by omega, wid_eLt _⟩, ?_⟩
    generalize x.2.2.1.1[i] = l at hsu hol hcl hle ⊢
    intro b7 hb7
    refine aw_box1 hb7 fun B2 hs2 h7 => ?_
    refine aw_rg rfl ?_  -- r8 @value.go:364
    simp only [go_sem, reduceIte, Nat.reduceEqDiff, Nat.reduceAdd, Nat.reduceMul, Nat.reduceSub, Nat.reduceLeDiff, Nat.reduceLT, reduceCtorEq, h7]
    refine goA_q (q_letterText l hol hcl) ?_
    simp only [go_sem, reduceIte, Nat.reduceEqDiff, Nat.reduceAdd, Nat.reduceMul, Nat.reduceSub, Nat.reduceLeDiff, Nat.reduceLT, reduceCtorEq, h7]
    refine ⟨by simp only [List.length_append]; omega, (), ?_, hs2⟩
    simp only [go_sem, reduceIte, Nat.reduceEqDiff, Nat.reduceAdd, Nat.reduceMul, Nat.reduceSub, Nat.reduceLeDiff, Nat.reduceLT, reduceCtorEq, hsu, List.append_assoc]
  intro _ he
  rw [List.take_length]
  refine hK14 _ _ ?_
  refine aw_sr rfl ?_  -- r10 @value.go:366
  simp only [go_sem, reduceIte, Nat.reduceEqDiff, Nat.reduceAdd, Nat.reduceMul, Nat.reduceSub, Nat.reduceLeDiff, Nat.reduceLT, reduceCtorEq, h1]
  refine goA_q (q_refnum _ o5) ?_
  simp only [go_sem, reduceIte, Nat.reduceEqDiff, Nat.reduceAdd, Nat.reduceMul, Nat.reduceSub, Nat.reduceLeDiff, Nat.reduceLT, reduceCtorEq, h1]
  refine ⟨by first | omega | (simp only [List.length_append]; omega), ?_⟩
  generalize hpre : natB x.1.toNat ++ encS x.2.1 ++ natB x.2.2.1.1.length ++ encLs x.2.2.1.1 ++ natB (numN x.2.2.2.1) = pre
  have hprel : pre.length ≤ 5120600100 := by rw [← hpre]; simp only [List.length_append]; omega
  refine aw_seq fun K15 hK15 => ?_
  refine aw_sr rfl ?_  -- r11 @value.go:367
  simp only [go_sem, reduceIte, Nat.reduceEqDiff, Nat.reduceAdd, Nat.reduceMul, Nat.reduceSub, Nat.reduceLeDiff, Nat.reduceLT, reduceCtorEq, h1]
  refine aw_range 2 (S := Unit) (fun i _ => [(5, .str (pre ++ twoN x.2.2.2.2.1.1 x.2.2.2.2.2.1 i)), (52, .sl [[.sl (x.2.2.2.2.1.1.map eNo) x.2.2.2.2.1.2 .no], [.sl (x.2.2.2.2.2.1.map eNo) x.2.2.2.2.2.2 .no]] false .full)]) (fun _ _ => B1) (fun i _ => True) () (by omega) ?_ (fun _ _ h => h) trivial rfl (fun _ _ => rfl) ?_ ?_ (by decide)
  · simp only [go_sem, reduceIte, Nat.reduceEqDiff, Nat.reduceAdd, Nat.reduceMul, Nat.reduceSub, Nat.reduceLeDiff, Nat.reduceLT, reduceCtorEq, Int.natCast_zero, twoN, List.append_nil]
    try exact ⟨rfl, rfl⟩
  · intro i _ hi he
    obtain ⟨ws, nw, hl, hnum, hpos, hlw, hget, hstep, hbnd⟩ : ∃ (ws : List Int) (nw : Bool), ws.length ≤ 1000 ∧ (∀ n ∈ ws, IntKind.i64.min ≤ n ∧ n ≤ IntKind.i64.max) ∧ (∀ n ∈ ws, 1 ≤ n) ∧ (encNs ws).length ≤ 10010 ∧
        ([[V.sl (x.2.2.2.2.1.1.map eNo) x.2.2.2.2.1.2 .no], [.sl (x.2.2.2.2.2.1.map eNo) x.2.2.2.2.2.2 .no]].getD i [] = [V.sl (ws.map eNo) nw .no]) ∧ twoN x.2.2.2.2.1.1 x.2.2.2.2.2.1 (i + 1) = twoN x.2.2.2.2.1.1 x.2.2.2.2.2.1 i ++ encNs ws ∧ (twoN x.2.2.2.2.1.1 x.2.2.2.2.2.1 i).length ≤ 10010 := by
      rcases (show i = 0 ∨ i = 1 by omega) with rfl | rfl
      · exact ⟨_, _, c2.2.1, o7, c5, e6, rfl, rfl, by simp [twoN]⟩
      · exact ⟨_, _, c2.2.2, o9, c6, e7, rfl, rfl, e6⟩
    generalize twoN x.2.2.2.2.1.1 x.2.2.2.2.2.1 i = tw at hstep hbnd ⊢
    have hlw' : (natB ws.length).length + (encI ws).length ≤ 10010 := by rw [encNs, List.length_append] at hlw; exact hlw
    refine aw_sr rfl ?_  -- r13 @value.go:367
    simp only [go_sem, reduceIte, Nat.reduceEqDiff, Nat.reduceAdd, Nat.reduceMul, Nat.reduceSub, Nat.reduceLeDiff, Nat.reduceLT, reduceCtorEq, hget]
    refine ⟨⟨by omega, by omega, wid_pair _ _⟩, ?_⟩
    refine aw_sr rfl ?_  -- r14 @value.go:368
    simp only [go_sem, reduceIte, Nat.reduceEqDiff, Nat.reduceAdd, Nat.reduceMul, Nat.reduceSub, Nat.reduceLeDiff, Nat.reduceLT, reduceCtorEq, wrapN (show ws.length < 2 ^ 64 by omega)]
    refine goA_q (q_refnat _ (by omega)) ?_
    simp only [go_sem, reduceIte, Nat.reduceEqDiff, Nat.reduceAdd, Nat.reduceMul, Nat.reduceSub, Nat.reduceLeDiff, Nat.reduceLT, reduceCtorEq]
    refine ⟨by first | omega | (simp only [List.length_append]; omega), ?_⟩
    refine aw_sr rfl ?_  -- r15 @value.go:369
    simp only [go_sem, reduceIte, Nat.reduceEqDiff, Nat.reduceAdd, Nat.reduceMul, Nat.reduceSub, Nat.reduceLeDiff, Nat.reduceLT, reduceCtorEq]
    refine aw_range ws.length (S := Unit) (fun j _ => [(5, .str (pre ++ tw ++ natB ws.length ++ encI (ws.take j))), (52, .sl [[.sl (x.2.2.2.2.1.1.map eNo) x.2.2.2.2.1.2 .no], [.sl (x.2.2.2.2.2.1.map eNo) x.2.2.2.2.2.2 .no]] false .full), (53, .int .i64 ((2 : Nat) : Int)), (54, .int .i64 ((i : Nat) : Int)), (64, .sl (ws.map eNo) nw .no)]) (fun _ _ => B1) (fun i _ => True) () (by omega) ?_ (fun _ _ h => h) trivial rfl (fun _ _ => rfl) ?_ ?_ (by decide)
    · simp only [go_sem, reduceIte, Nat.reduceEqDiff, Nat.reduceAdd, Nat.reduceMul, Nat.reduceSub, Nat.reduceLeDiff, Nat.reduceLT, reduceCtorEq, Int.natCast_zero, List.take_zero, encI, List.flatMap_nil, List.append_nil]
      try rfl
    · intro j _ hj he2
      have hle : (encI (ws.take (j + 1))).length ≤ (encI ws).length := flatM_take _ (j + 1)
      have hsu := encI_succ hj
      rw [hsu, List.length_append] at hle
      have hm := List.getElem_mem hj
      have r3 := i64_range (hnum _ hm)
      have r2 := hpos _ hm
      have hw : IntKind.u64.wrap ws[j] = (((ws[j]).toNat : Nat) : Int) := by rw [wrap_u64]; omega
      refine aw_sr rfl ?_  -- r17 @value.go:369
      simp only [go_sem, reduceIte, Nat.reduceEqDiff, Nat.reduceAdd, Nat.reduceMul, Nat.reduceSub, Nat.reduceLeDiff, Nat.reduceLT, reduceCtorEq, getD_map hj, eNo]
      refine ⟨⟨by omega, by omega, wid_eNo _⟩, ?_⟩
      refine aw_rg rfl ?_  -- r18 @value.go:370
      simp only [go_sem, reduceIte, Nat.reduceEqDiff, Nat.reduceAdd, Nat.reduceMul, Nat.reduceSub, Nat.reduceLeDiff, Nat.reduceLT, reduceCtorEq, hw]
      refine goA_q (q_refnat _ (by omega)) ?_
      simp only [go_sem, reduceIte, Nat.reduceEqDiff, Nat.reduceAdd, Nat.reduceMul, Nat.reduceSub, Nat.reduceLeDiff, Nat.reduceLT, reduceCtorEq]
      refine ⟨by simp only [List.length_append]; omega, (), ?_, fun _ _ h => h⟩
      simp only [go_sem, reduceIte, Nat.reduceEqDiff, Nat.reduceAdd, Nat.reduceMul, Nat.reduceSub, Nat.reduceLeDiff, Nat.reduceLT, reduceCtorEq, hsu, List.append_assoc]
    intro _ he2
    rw [List.take_length]
    refine ⟨(), ⟨rfl, rfl, ?_, rfl⟩, fun _ _ h => h⟩
    show some (V.str _) = some (V.str _)
    rw [hstep, encNs]
    simp only [List.append_assoc]
  intro _ he
  refine hK15 _ _ ?_
  refine aw_sr rfl ?_  -- r21 @value.go:373
  simp only [go_sem, reduceIte, Nat.reduceEqDiff, Nat.reduceAdd, Nat.reduceMul, Nat.reduceSub, Nat.reduceLeDiff, Nat.reduceLT, reduceCtorEq]
  refine aw_ret ⟨trivial, _, rfl, ?_, hsB⟩
  rw [parcelF, if_neg (by simpa using hc)]
  have hE : pre ++ twoN x.2.2.2.2.1.1 x.2.2.2.2.2.1 2 = encP x := by
    rw [← hpre, encP, twoN]; simp only [List.append_assoc]
  rw [hE]
  exact Vle.refl _
def smallP (x : Pcl) : Bool := x.2.2.1.1.all (fun l => smallV l.2.2.2.2.2) && smallS x.2.1
theorem q_ParcelSmall (x : Pcl) (h1 : x.2.2.1.1.length ≤ 1048576) (h2 : ∀ l ∈ x.2.2.1.1, l.2.2.2.2.2.sz ≤ bulk) (h3 : x.2.1.2.1.1.length ≤ 1048576) (h4 : x.2.1.2.2.1.length ≤ 1048576) (h5 : ∀ v ∈ x.2.1.2.1.1, v.sz ≤ bulk) (h6 : ∀ i ∈ x.2.1.2.2.1, i.2.sz ≤ bulk) :
    Quiet Tryz.prog 18 [.agg (cPcl x)] (.bool (smallP x)) := by
  have hq := q_SavedSmall x.2.1 h3 h4 h5 h6
  refine Quiet.weak fun G => ?_
  refine acall_body (rs := [.tmp 2]) Tryz.func18 rfl rfl Tryz.ntmps18 (by kernel_rfl) (Nat.le_of_ble_eq_true rfl) ?_
  refine aw_sr rfl ?_  -- r0 @toy.go:43
  simp only [go_sem, reduceIte, Nat.reduceEqDiff, Nat.reduceAdd, Nat.reduceMul, Nat.reduceSub, Nat.reduceLeDiff, Nat.reduceLT, reduceCtorEq]
  intro b1 hb1
  refine aw_box1 hb1 fun B1 hs1 g1 => ?_
  have hsB := hs1
  refine aw_seq fun K16 hK16 => ?_
  refine aw_sr rfl ?_  -- r1 @toy.go:44
  simp only [go_sem, reduceIte, Nat.reduceEqDiff, Nat.reduceAdd, Nat.reduceMul, Nat.reduceSub, Nat.reduceLeDiff, Nat.reduceLT, reduceCtorEq, g1]
  refine aw_range x.2.2.1.1.length (S := Unit) (fun i _ => [(1, .ptr b1 0), (6, .sl (x.2.2.1.1.map eLt) x.2.2.1.2 .no)]) (fun _ _ => B1) (fun i _ => (x.2.2.1.1.take i).all (fun l => smallV l.2.2.2.2.2) = true) () (by omega) ?_ (fun _ _ h => h) rfl rfl (fun _ _ => rfl) ?_ ?_ (by decide)
  · simp only [go_sem, reduceIte, Nat.reduceEqDiff, Nat.reduceAdd, Nat.reduceMul, Nat.reduceSub, Nat.reduceLeDiff, Nat.reduceLT, reduceCtorEq, Int.natCast_zero]
  · intro i _ hi he
    have hm := List.getElem_mem hi
    refine aw_sr rfl ?_  -- r3 @toy.go:44
    simp only [go_sem, reduceIte, Nat.reduceEqDiff, Nat.reduceAdd, Nat.reduceMul, Nat.reduceSub, Nat.reduceLeDiff, Nat.reduceLT, reduceCtorEq, getD_map hi, eLt]
    refine ⟨⟨by omega, by omega, wid_eLt _⟩, ?_⟩
    intro b4 hb4
    refine aw_box1 hb4 fun B2 hs2 h4 => ?_
    refine aw_sr rfl ?_  -- r4 @toy.go:45
    simp only [go_sem, reduceIte, Nat.reduceEqDiff, Nat.reduceAdd, Nat.reduceMul, Nat.reduceSub, Nat.reduceLeDiff, Nat.reduceLT, reduceCtorEq, h4]
    refine goA_q (q_ValueSmall x.2.2.1.1[i].2.2.2.2.2 (h2 _ hm)) ?_
    simp only [go_sem, reduceIte, Nat.reduceEqDiff, Nat.reduceAdd, Nat.reduceMul, Nat.reduceSub, Nat.reduceLeDiff, Nat.reduceLT, reduceCtorEq, h4]
    refine aw_if rfl (fun h => ?_) (fun h => ?_)
    · refine aw_sr rfl ?_  -- r5 @toy.go:46
      simp only [go_sem, reduceIte, Nat.reduceEqDiff, Nat.reduceAdd, Nat.reduceMul, Nat.reduceSub, Nat.reduceLeDiff, Nat.reduceLT, reduceCtorEq]
      refine aw_ret ⟨trivial, _, rfl, ?_, sub_trans hsB hs2⟩
      rw [smallP, all_not (q := fun l : Lt => smallV l.2.2.2.2.2) hi (by simpa using h)]
      exact Vle.refl _
    refine aw_skip ⟨(), all_take_next (q := fun l : Lt => smallV l.2.2.2.2.2) he hi (by simpa using h), ?_, hs2⟩
    simp only [go_sem, reduceIte, Nat.reduceEqDiff, Nat.reduceAdd, Nat.reduceMul, Nat.reduceSub, Nat.reduceLeDiff, Nat.reduceLT, reduceCtorEq]
  intro _ he
  rw [List.take_length] at he
  refine hK16 _ _ ?_
  refine aw_sr rfl ?_  -- r7 @toy.go:49
  simp only [go_sem, reduceIte, Nat.reduceEqDiff, Nat.reduceAdd, Nat.reduceMul, Nat.reduceSub, Nat.reduceLeDiff, Nat.reduceLT, reduceCtorEq, g1]
  refine goA_q hq ?_
  simp only [go_sem, reduceIte, Nat.reduceEqDiff, Nat.reduceAdd, Nat.reduceMul, Nat.reduceSub, Nat.reduceLeDiff, Nat.reduceLT, reduceCtorEq, g1]
  refine aw_ret ⟨trivial, _, rfl, ?_, hsB⟩
  rw [smallP, he, Bool.true_and]
  exact Vle.refl _
end Go.Proofs.YtlgfffngojlffaaGreat

/- What is saved, read: the program's. No conditions. -/
set_option linter.unusedSimpArgs false
set_option linter.unusedVariables false
namespace Go.Proofs.YtlgfffngojlffaaGreat
open Go.Proofs.YtlgfffngojlffaaGreatV
set_option maxHeartbeats 400000
set_option maxRecDepth 100000
/-- As a reader may make one. -/
def FineS (x : Sv) : Prop := x.1.length ≤ 4000 ∧ (∀ v ∈ x.2.1.1, Fine v ∧ v.sz ≤ 401) ∧ x.2.1.1.length ≤ 4000000 ∧ x.2.1.2 = x.2.1.1.isEmpty ∧ (∀ i ∈ x.2.2.1, (0 ≤ i.1 ∧ i.1 ≤ 255) ∧ Fine i.2 ∧ i.2.sz ≤ 401) ∧ x.2.2.1.length ≤ 4000000 ∧ x.2.2.2 = x.2.2.1.isEmpty
theorem FineS.ok {x : Sv} (h : FineS x) : OkSv x := by
  obtain ⟨h1, h2, h3, h4, h5, h6, h7⟩ := h
  exact ⟨by omega, by omega, fun v hv => (h2 v hv).1.obulk (h2 v hv).2, by omega, fun v hv => (h5 v hv).2.1.obulk (h5 v hv).2.2⟩
def GoodS (x : Sv) : Prop := FineS x ∧ checkS x = 0
theorem GoodS.state {x : Sv} (h : GoodS x) {v : Val} (hv : v ∈ x.2.1.1) : Good v := ⟨(h.1.2.1 v hv).1, (checkS_good h.2).2.2.1 v hv⟩
theorem GoodS.input {x : Sv} (h : GoodS x) {i : Rcv} (hi : i ∈ x.2.2.1) : (0 ≤ i.1 ∧ i.1 ≤ 255) ∧ (¬ i.1 = 3 → Good i.2) ∧ (i.1 = 3 → i.2 = Val.zero) := by
  have hf := h.1.2.2.2.2.1 i hi
  have hg := inp_good ((checkS_good h.2).2.2.2 i hi)
  exact ⟨hf.1, fun e => ⟨hf.2.1, hg.2.2.1 e⟩, fun e => zeroV_eq hf.2.1 (hg.2.2.2 e)⟩
def savedQ (br : Nat) (nl : Bool) (rest : List UInt8) (bad : Bool) (G : Heap) (y : V) (G' : Heap) : Prop :=
  ∃ (x : Sv) (rest' : List UInt8) (bad' : Bool) (left' : Int), FineS x ∧ y = .agg (cSv x) ∧ Rd G' br nl rest' bad' left' ∧ KB br G G' ∧ rest'.length ≤ rest.length ∧
    ∀ (z : Sv) (r : List UInt8), rest = encS z ++ r → GoodS z → bad = false → x = z ∧ rest' = r ∧ bad' = false
theorem a_rsaved (br : Nat) (nl : Bool) (rest : List UInt8) (bad : Bool) (left : Int) (G : Heap) (hl : rest.length ≤ 1099511627776) (hG : Rd G br nl rest bad left) :
    ACall Tryz.prog 54 [.ptr br 0] (savedQ br nl rest bad G) G := by
  have hG' : hget G br = some (.vars [.sl (bytesV rest) nl .no, .bool bad, .int .i64 left]) := hG
  refine ACall.weak ?_
  refine acall_body (rs := [.cell 2 44]) Tryz.func54 rfl rfl Tryz.ntmps54 (by kernel_rfl) (Nat.le_of_ble_eq_true rfl) ?_
  refine aw_sr rfl ?_  -- r0
  simp only [go_sem, reduceIte, Nat.reduceEqDiff, Nat.reduceAdd, Nat.reduceMul, Nat.reduceSub, Nat.reduceLeDiff, Nat.reduceLT, reduceCtorEq]
  intro b2 hb2
  have ne2 : ¬ b2 = br := fun e => ne_fresh hG' hb2 e.symm
  refine aw_box1 hb2 fun B1 hs1 h2 => ?_
  have hR1 : Rd B1 br nl rest bad left := hs1 _ _ hG'
  refine aw_sr rfl ?_  -- r1
  simp only [go_sem, reduceIte, Nat.reduceEqDiff, Nat.reduceAdd, Nat.reduceMul, Nat.reduceSub, Nat.reduceLeDiff, Nat.reduceLT, reduceCtorEq]
  refine goA_by (a_rtext br nl rest bad left B1 hl hR1) fun y G1 hy => ?_
  obtain ⟨txt, rest1, bad1, htx, rfl, hR2, k2, hl1, hc1⟩ := hy
  have h22 := k2 _ _ ne2 h2
  simp only [go_sem, reduceIte, Nat.reduceEqDiff, Nat.reduceAdd, Nat.reduceMul, Nat.reduceSub, Nat.reduceLeDiff, Nat.reduceLT, reduceCtorEq]
  intro b3 hb3
  have ne3 : ¬ b3 = br := fun e => ne_fresh hR2 hb3 e.symm
  have ne32 : ¬ b3 = b2 := fun e => ne_fresh h22 hb3 e.symm
  have kG : KB br G G1 := KB.trans (B := B1) (fun b o _ h => hs1 _ _ h) k2
  have hG3 : hget G b3 = none := kG.none ne3 hb3
  refine aw_box1 hb3 fun B2 hs2 h3 => ?_
  replace h22 := hs2 _ _ h22
  have hR3 : Rd B2 br nl rest1 bad1 left := hs2 _ _ hR2
  have k3 := kG.sub hs2
  refine aw_seq fun K1 hK1 => ?_
  refine aw_sr rfl ?_  -- r2
  simp only [go_sem, reduceIte, Nat.reduceEqDiff, Nat.reduceAdd, Nat.reduceMul, Nat.reduceSub, Nat.reduceLeDiff, Nat.reduceLT, reduceCtorEq]
  refine goA_by (a_rmany br nl rest1 bad1 left 6 B2 (by decide) (by omega) hR3) fun y G2 hy => ?_
  obtain ⟨m0, rest2, bad2, hm0, rfl, hR4, k4, hl2, hc2⟩ := hy
  have h34 := k4 _ _ ne3 h3
  have h24 := k4 _ _ ne2 h22
  simp only [go_sem, reduceIte, Nat.reduceEqDiff, Nat.reduceAdd, Nat.reduceMul, Nat.reduceSub, Nat.reduceLeDiff, Nat.reduceLT, reduceCtorEq]
  refine aw_block ?_  -- 0
  refine aw_lph (S := {s : List Val × Nat × Tag × List UInt8 × Bool × Int × Heap // (∀ a ∈ s.1, Fine a ∧ a.sz ≤ 401) ∧ s.1.length + s.2.1 ≤ 6 ∧ Rd s.2.2.2.2.2.2 br nl s.2.2.2.1 s.2.2.2.2.1 s.2.2.2.2.2.1 ∧
      hget s.2.2.2.2.2.2 b3 = some (.vars [.str txt, .sl (s.1.map eVal) s.1.isEmpty s.2.2.1, .sl [] true .full]) ∧ Rm (off br G) s.2.2.2.2.2.2 4 s.2.2.1 ∧
      hget s.2.2.2.2.2.2 b2 = some (.vars [.str [], .sl [] true .full, .sl [] true .full]) ∧ KB br G s.2.2.2.2.2.2 ∧ s.2.2.2.1.length ≤ rest.length ∧
      ∀ (z : Sv) (r : List UInt8), rest = encS z ++ r → GoodS z → bad = false → s.2.2.2.2.1 = false ∧ txt = z.1 ∧ s.1 = z.2.1.1.take s.1.length ∧ s.1.length + s.2.1 = z.2.1.1.length ∧ s.2.2.2.1 = encVs (z.2.1.1.drop s.1.length) ++ (natB z.2.2.1.length ++ (encRs z.2.2.1 ++ r))})
    (fun s => [(0, .ptr br 0), (2, .ptr b2 0), (3, .ptr b3 0), (4, .int .i64 ((s.1.2.1 : Nat) : Int))]) (fun s => s.1.2.2.2.2.2.2) (fun s => s.1.2.1)
    ⟨([], m0, .full, rest2, bad2, left, G2), by simp, by simpa using hm0, hR4, h34, Rm.start _ _ _, h24, k3.trans k4, by show rest2.length ≤ _; omega, ?_⟩ ?_ (fun _ _ h => h) ?_
  · intro z r h1 h2 h3
    rw [encS, List.append_assoc, List.append_assoc, List.append_assoc, List.append_assoc] at h1
    obtain ⟨a1, a2, a3⟩ := hc1 _ _ h1 h2.1.1 h3
    obtain ⟨b1', b2', b3'⟩ := hc2 _ _ a2 (checkS_good h2.2).2.1.1 a3
    refine ⟨b3', a1, rfl, ?_, ?_⟩
    · show 0 + m0 = _; omega
    · exact b2'
  · simp only [go_sem, reduceIte, Nat.reduceEqDiff, Nat.reduceAdd, Nat.reduceMul, Nat.reduceSub, Nat.reduceLeDiff, Nat.reduceLT, reduceCtorEq]
  intro ⟨⟨as_, m, t, rs, bd, lf, H⟩, i1, i2, i5, i6, i7, i8, i9, i10, i11⟩
  simp only at i1 i2 i5 i6 i7 i8 i9 i10 i11 ⊢
  have i5' : hget H br = some (.vars [.sl (bytesV rs) nl .no, .bool bd, .int .i64 lf]) := i5
  refine aw_seq fun K3 hK3 => ?_
  refine aw_sr rfl ?_  -- r3
  simp only [go_sem, reduceIte, Nat.reduceEqDiff, Nat.reduceAdd, Nat.reduceMul, Nat.reduceSub, Nat.reduceLeDiff, Nat.reduceLT, reduceCtorEq, i5']
  refine aw_if rfl (fun h => ?_) (fun h => ?_)
  · have hmb : 0 < m ∧ bd = false := by
      rw [Bool.and_eq_true] at h
      obtain ⟨q1, q2⟩ := h
      rw [decide_eq_true_eq] at q1
      exact ⟨by omega, by simpa using q2⟩
    obtain ⟨hm, rfl⟩ := hmb
    refine aw_skip (hK3 _ _ ?_)
    refine aw_seq fun K4 hK4 => ?_
    refine aw_block ?_  -- 1
    refine aw_rgf [(0,true),(2,true)] 1 3 [(3,false),(4,true),(5,false),(6,true),(7,false)] [(4,true),(1,false),(5,false),(6,true),(7,false)] mixed rfl (by kernel_rfl) ?_  -- r5
    simp only [go_sem, reduceIte, Nat.reduceEqDiff, Nat.reduceAdd, Nat.reduceMul, Nat.reduceSub, Nat.reduceLeDiff, Nat.reduceLT, reduceCtorEq, i6]
    refine ⟨?_, ?_⟩
    all_goals
      refine goA_by (a_rvalue br nl rs false lf H (by omega) i5) fun y G1 hy => ?_
      obtain ⟨v, rs', bd', left', hv, rfl, j1, jk, j2, j3, j6⟩ := hy
      have k6 := jk _ _ ne3 i6
      have k8 := jk _ _ ne2 i8
      have kr := Rm.kb i7 jk i5'
      have happ : as_.map eVal ++ [[.int .i64 v.kind, .int .i64 v.num, .str v.text, .sl (v.args.map eVal) v.nl .no]] = (as_ ++ [v]).map eVal := by rw [List.map_append, List.map_cons, List.map_nil, eC]
      simp only [go_sem, reduceIte, Nat.reduceEqDiff, Nat.reduceAdd, Nat.reduceMul, Nat.reduceSub, Nat.reduceLeDiff, Nat.reduceLT, reduceCtorEq, k6]
      refine goP_rm kr (i9.trans jk).off ?_ fun t1 H1 hr1 hs1 hg1 => ?_
      · exact ⟨rfl, rfl, by decide, wid_map (g := eVal) (fun _ => by simp [eC, cV]) _, wid_one rfl, sca_one rfl, by simp; omega, by simp; omega⟩
      simp only [go_sem, reduceIte, Nat.reduceEqDiff, Nat.reduceAdd, Nat.reduceMul, Nat.reduceSub, Nat.reduceLeDiff, Nat.reduceLT, reduceCtorEq, hg1.vars k6, happ, Bool.and_false]
      have hne : (as_ ++ [v]).isEmpty = false := by cases as_ <;> rfl
      refine hK4 _ _ ?_
      refine aw_rg rfl ?_  -- r4
      simp only [go_sem, reduceIte, Nat.reduceEqDiff, Nat.reduceAdd, Nat.reduceMul, Nat.reduceSub, Nat.reduceLeDiff, Nat.reduceLT, reduceCtorEq]
      refine ⟨⟨(as_ ++ [v], m - 1, t1, rs', bd', left', _), ?_, ?_, ?_, ?_, hr1.hset (hg1.vars k6) (fun _ _ e => by cases e), hset_keep (hg1.vars k8) (fun e => ne32 e.symm), (KB.on hs1).fresh hG3 _, Nat.le_trans j2 i10, ?_⟩, ?_, ⟨rfl, rfl, rfl, ?_⟩, sub_rfl⟩
      · intro a ha
        rcases List.mem_append.1 ha with ha | ha
        · exact i1 a ha
        · rw [List.mem_singleton.1 ha]; exact ⟨hv, j3⟩
      · show (as_ ++ [v]).length + (m - 1) ≤ 6
        rw [List.length_append, List.length_singleton]; omega
      · show Rd _ br nl rs' bd' left'
        exact hset_keep (hg1.vars j1) (fun e => ne3 e.symm)
      · show hget _ b3 = some (.vars [.str txt, .sl ((as_ ++ [v]).map eVal) (as_ ++ [v]).isEmpty t1, .sl [] true .full])
        rw [hne]; exact hget_hset_self (hg1.vars k6)
      · intro z r h1 h2 h3
        obtain ⟨p1, p4, p5, p6, p7⟩ := i11 z r h1 h2 h3
        have hk : as_.length < z.2.1.1.length := by omega
        have hdrop : z.2.1.1.drop as_.length = z.2.1.1[as_.length] :: z.2.1.1.drop (as_.length + 1) := List.drop_eq_getElem_cons hk
        have hg := h2.state (List.getElem_mem hk)
        rw [hdrop, encVs, List.append_assoc] at p7
        obtain ⟨q1, q2, q3⟩ := j6 _ _ p7 hg.1 hg.small.2 hg.small.1 rfl
        refine ⟨q3, p4, ?_, ?_, ?_⟩
        · show as_ ++ [v] = z.2.1.1.take (as_ ++ [v]).length
          rw [List.length_append, List.length_singleton, List.take_succ_eq_append_getElem hk, ← p5, q1]
        · show (as_ ++ [v]).length + (m - 1) = z.2.1.1.length
          rw [List.length_append, List.length_singleton]; omega
        · show rs' = encVs (z.2.1.1.drop (as_ ++ [v]).length) ++ _
          rw [List.length_append, List.length_singleton]; exact q2
      · show m - 1 < m; omega
      · show some (V.int .i64 (IntKind.i64.wrap ((m : Int) - 1))) = some (V.int .i64 ((m - 1 : Nat) : Int))
        rw [wrap64 (by omega) (by omega)]; congr 2; omega
  · refine aw_exit ?_  -- 0
    refine hK1 _ _ ?_
    have hcan : ∀ (z : Sv) (r : List UInt8), rest = encS z ++ r → GoodS z → bad = false → bd = false ∧ txt = z.1 ∧ as_ = z.2.1.1 ∧ rs = natB z.2.2.1.length ++ (encRs z.2.2.1 ++ r) := by
      intro z r h1 h2 h3
      obtain ⟨p1, p4, p5, p6, p7⟩ := i11 z r h1 h2 h3
      have hm0 : m = 0 := by
        rw [p1] at h
        by_cases hlt : (0 : Int) < (m : Int)
        · rw [decide_eq_true hlt] at h; exact absurd h (by decide)
        · omega
      have hlen : as_.length = z.2.1.1.length := by omega
      rw [hlen, List.take_length] at p5
      rw [hlen, List.drop_length, encVs, List.nil_append] at p7
      exact ⟨p1, p4, p5, p7⟩
    refine aw_seq fun K4 hK4 => ?_
    refine aw_sr rfl ?_  -- r6
    simp only [go_sem, reduceIte, Nat.reduceEqDiff, Nat.reduceAdd, Nat.reduceMul, Nat.reduceSub, Nat.reduceLeDiff, Nat.reduceLT, reduceCtorEq]
    refine goA_by (a_rmany br nl rs bd lf 2000 H (by decide) (by omega) i5) fun y G5 hy => ?_
    obtain ⟨m1, rest5, bad5, hm1, rfl, hR5, k5, hl5, hc5⟩ := hy
    have h35 := k5 _ _ ne3 i6
    have h25 := k5 _ _ ne2 i8
    simp only [go_sem, reduceIte, Nat.reduceEqDiff, Nat.reduceAdd, Nat.reduceMul, Nat.reduceSub, Nat.reduceLeDiff, Nat.reduceLT, reduceCtorEq]
    refine aw_block ?_  -- 2
    refine aw_lph (S := {s : List Rcv × Nat × Tag × List UInt8 × Bool × Int × Heap // (∀ a ∈ s.1, (0 ≤ a.1 ∧ a.1 ≤ 255) ∧ Fine a.2 ∧ a.2.sz ≤ 401) ∧ s.1.length + s.2.1 ≤ 2000 ∧ Rd s.2.2.2.2.2.2 br nl s.2.2.2.1 s.2.2.2.2.1 s.2.2.2.2.2.1 ∧
        hget s.2.2.2.2.2.2 b3 = some (.vars [.str txt, .sl (as_.map eVal) as_.isEmpty t, .sl (s.1.map eRcv) s.1.isEmpty s.2.2.1]) ∧ Rm (off br G) s.2.2.2.2.2.2 5 s.2.2.1 ∧
        hget s.2.2.2.2.2.2 b2 = some (.vars [.str [], .sl [] true .full, .sl [] true .full]) ∧ KB br G s.2.2.2.2.2.2 ∧ s.2.2.2.1.length ≤ rest.length ∧
        ∀ (z : Sv) (r : List UInt8), rest = encS z ++ r → GoodS z → bad = false → s.2.2.2.2.1 = false ∧ txt = z.1 ∧ as_ = z.2.1.1 ∧ s.1 = z.2.2.1.take s.1.length ∧ s.1.length + s.2.1 = z.2.2.1.length ∧ s.2.2.2.1 = encRs (z.2.2.1.drop s.1.length) ++ r})
      (fun s => [(0, .ptr br 0), (2, .ptr b2 0), (3, .ptr b3 0), (5, .int .i64 ((s.1.2.1 : Nat) : Int))]) (fun s => s.1.2.2.2.2.2.2) (fun s => s.1.2.1)
      ⟨([], m1, .full, rest5, bad5, lf, G5), by simp, by simpa using hm1, hR5, h35, Rm.start _ _ _, h25, i9.trans k5, by show rest5.length ≤ _; omega, ?_⟩ ?_ (fun _ _ h => h) ?_
    · intro z r h1 h2 h3
      obtain ⟨p1, p2, p3, p4⟩ := hcan z r h1 h2 h3
      obtain ⟨a1, a2, a3⟩ := hc5 _ _ p4 (checkS_good h2.2).2.1.2 p1
      refine ⟨a3, p2, p3, rfl, ?_, ?_⟩
      · show 0 + m1 = _; omega
      · exact a2
    · simp only [go_sem, reduceIte, Nat.reduceEqDiff, Nat.reduceAdd, Nat.reduceMul, Nat.reduceSub, Nat.reduceLeDiff, Nat.reduceLT, reduceCtorEq]
    intro ⟨⟨rv, m2, t2, rs2, bd2, lf2, H2⟩, q1, q2, q3, q4, q5, q6, q7, q8, q9⟩
    simp only at q1 q2 q3 q4 q5 q6 q7 q8 q9 ⊢
    have q3' : hget H2 br = some (.vars [.sl (bytesV rs2) nl .no, .bool bd2, .int .i64 lf2]) := q3
    refine aw_seq fun K5 hK5 => ?_
    refine aw_sr rfl ?_  -- r7
    simp only [go_sem, reduceIte, Nat.reduceEqDiff, Nat.reduceAdd, Nat.reduceMul, Nat.reduceSub, Nat.reduceLeDiff, Nat.reduceLT, reduceCtorEq, q3']
    refine aw_if rfl (fun h => ?_) (fun h => ?_)
    · have hmb : 0 < m2 ∧ bd2 = false := by
        rw [Bool.and_eq_true] at h
        obtain ⟨x1, x2⟩ := h
        rw [decide_eq_true_eq] at x1
        exact ⟨by omega, by simpa using x2⟩
      obtain ⟨hm, rfl⟩ := hmb
      refine aw_skip (hK5 _ _ ?_)
      refine aw_seq fun K6 hK6 => ?_
      refine aw_block ?_  -- 3
      refine aw_sr rfl ?_  -- r9
      simp only [go_sem, reduceIte, Nat.reduceEqDiff, Nat.reduceAdd, Nat.reduceMul, Nat.reduceSub, Nat.reduceLeDiff, Nat.reduceLT, reduceCtorEq]
      refine goA_by (a_rbyte br nl rs2 false lf2 H2 (by omega) q3) fun y G6 hy => ?_
      obtain ⟨c, rest6, bad6, rfl, hR6, k6, hc6⟩ := hy
      have hl6 : rest6.length ≤ rs2.length := by
        rcases hc6 with ⟨x1, x2, x3⟩ | ⟨x1, x2⟩
        · rw [x2]; exact Nat.zero_le _
        · rw [x1, List.length_cons]; omega
      have hcl := c.toNat_lt
      have hwc : IntKind.i64.wrap ((c.toNat : Nat) : Int) = ((c.toNat : Nat) : Int) := wrap64 (by omega) (by omega)
      have u3 := k6 _ _ ne3 q4
      have u2 := k6 _ _ ne2 q6
      have ur := Rm.kb q5 k6 q3'
      simp only [go_sem, reduceIte, Nat.reduceEqDiff, Nat.reduceAdd, Nat.reduceMul, Nat.reduceSub, Nat.reduceLeDiff, Nat.reduceLT, reduceCtorEq, hwc]
      intro b6 hb6
      have ne6 : ¬ b6 = br := fun e => ne_fresh hR6 hb6 e.symm
      have ne63 : ¬ b6 = b3 := fun e => ne_fresh u3 hb6 e.symm
      have ne62 : ¬ b6 = b2 := fun e => ne_fresh u2 hb6 e.symm
      have hG6 : hget G b6 = none := (q7.trans k6).none ne6 hb6
      refine aw_box1 hb6 fun B6 hs6 h6 => ?_
      replace u3 := hs6 _ _ u3
      replace u2 := hs6 _ _ u2
      replace ur := ur.sub hs6
      have hR7 : Rd B6 br nl rest6 bad6 lf2 := hs6 _ _ hR6
      have hR7' : hget B6 br = some (.vars [.sl (bytesV rest6) nl .no, .bool bad6, .int .i64 lf2]) := hR7
      have kk6 := (q7.trans k6).sub hs6
      refine aw_mid (fun f' G' => FSub [(0, .ptr br 0), (2, .ptr b2 0), (3, .ptr b3 0), (5, .int .i64 ((m2 : Nat) : Int)), (6, .ptr b6 0)] f' ∧ ∃ v rest7 bad7 left7, Fine v ∧ v.sz ≤ 401 ∧ Rd G' br nl rest7 bad7 left7 ∧ hget G' b6 = some (.vars (cRcv (((c.toNat : Nat) : Int), v))) ∧ hget G' b3 = some (.vars [.str txt, .sl (as_.map eVal) as_.isEmpty t, .sl (rv.map eRcv) rv.isEmpty t2]) ∧ Rm (off br G) G' 5 t2 ∧ hget G' b2 = some (.vars [.str [], .sl [] true .full, .sl [] true .full]) ∧ KB br G G' ∧ rest7.length ≤ rest.length ∧
        ∀ (z : Val) (r : List UInt8), ((¬ ((c.toNat : Nat) : Int) = 3 → Good z) ∧ (((c.toNat : Nat) : Int) = 3 → z = Val.zero)) → rest6 = (if ((c.toNat : Nat) : Int) = 3 then [] else encV z) ++ r → bad6 = false → v = z ∧ rest7 = r ∧ bad7 = false) ?_ ?_
      · refine aw_sr rfl ?_  -- r10
        simp only [go_sem, reduceIte, Nat.reduceEqDiff, Nat.reduceAdd, Nat.reduceMul, Nat.reduceSub, Nat.reduceLeDiff, Nat.reduceLT, reduceCtorEq, h6]
        refine aw_if rfl (fun h => ?_) (fun h => ?_)
        · have hk : ¬ ((c.toNat : Nat) : Int) = 3 := by simpa using h
          refine aw_rg rfl ?_  -- r11
          simp only [go_sem, reduceIte, Nat.reduceEqDiff, Nat.reduceAdd, Nat.reduceMul, Nat.reduceSub, Nat.reduceLeDiff, Nat.reduceLT, reduceCtorEq]
          refine goA_by (a_rvalue br nl rest6 bad6 lf2 B6 (by omega) hR7) fun y G7 hy => ?_
          obtain ⟨v, rest7, bad7, left7, hv, rfl, j1, jk, j2, j3, j6⟩ := hy
          have h67 := jk _ _ ne6 h6
          simp only [go_sem, reduceIte, Nat.reduceEqDiff, Nat.reduceAdd, Nat.reduceMul, Nat.reduceSub, Nat.reduceLeDiff, Nat.reduceLT, reduceCtorEq, h67]
          refine ⟨⟨rfl, rfl, rfl, rfl, rfl⟩, v, rest7, bad7, left7, hv, j3, hset_keep j1 (fun e => ne6 e.symm), hget_hset_self h67, hset_keep (jk _ _ ne3 u3) (fun e => ne63 e.symm), (Rm.kb ur jk hR7').hset h67 (fun _ _ e => by cases e), hset_keep (jk _ _ ne2 u2) (fun e => ne62 e.symm), (kk6.trans jk).fresh hG6 _, by omega, ?_⟩
          intro z r hz h1 h2
          rw [if_neg hk] at h1
          have hg := hz.1 hk
          exact j6 z r h1 hg.1 hg.small.2 hg.small.1 h2
        · have hk : ((c.toNat : Nat) : Int) = 3 := by simpa using h
          refine AW.hle (ds := cRcv (((c.toNat : Nat) : Int), Val.zero)) h6 (by repeat (first | exact .nil | refine .cons (Vle.refl _) ?_ | refine .cons Vle.untag ?_ | refine .cons (Vle.aggL ?_) ?_ | refine .cons (Vle.slE ?_) ?_)) ?_
          refine aw_skip ⟨⟨rfl, rfl, rfl, rfl, rfl⟩, Val.zero, rest6, bad6, lf2, Fine.zero, by decide, hset_keep hR7 (fun e => ne6 e.symm), hget_hset_self h6, hset_keep u3 (fun e => ne63 e.symm), ur.hset h6 (fun _ _ e => by cases e), hset_keep u2 (fun e => ne62 e.symm), kk6.fresh hG6 _, by omega, ?_⟩
          intro z r hz h1 h2
          rw [if_pos hk, List.nil_append] at h1
          exact ⟨(hz.2 hk).symm, h1, h2⟩
      intro f' B7 ⟨hf, v, rest7, bad7, left7, hv, hsz, hR8, g6, g3, gr, g2, kk7, hl7, hcan2⟩
      refine AW.of_fsub hf ?_
      have happ : rv.map eRcv ++ [[.int .i64 ((c.toNat : Nat) : Int), .int .i64 v.kind, .int .i64 v.num, .str v.text, .sl (v.args.map eVal) v.nl .no]] = (rv ++ [(((c.toNat : Nat) : Int), v)]).map eRcv := by rw [List.map_append, List.map_cons, List.map_nil]; rfl
      refine aw_rg rfl ?_  -- r12
      simp only [go_sem, reduceIte, Nat.reduceEqDiff, Nat.reduceAdd, Nat.reduceMul, Nat.reduceSub, Nat.reduceLeDiff, Nat.reduceLT, reduceCtorEq, g3, g6]
      refine goP_rm gr kk7.off ?_ fun t1 H1 hr1 hs1 hg1 => ?_
      · exact ⟨rfl, rfl, by decide, wid_map (g := eRcv) (fun _ => rfl) _, wid_one rfl, sca_one rfl, by simp; omega, by simp; omega⟩
      simp only [go_sem, reduceIte, Nat.reduceEqDiff, Nat.reduceAdd, Nat.reduceMul, Nat.reduceSub, Nat.reduceLeDiff, Nat.reduceLT, reduceCtorEq, hg1.vars g3, happ, Bool.and_false]
      have hne : (rv ++ [(((c.toNat : Nat) : Int), v)]).isEmpty = false := by cases rv <;> rfl
      refine hK6 _ _ ?_
      refine aw_rg rfl ?_  -- r8
      simp only [go_sem, reduceIte, Nat.reduceEqDiff, Nat.reduceAdd, Nat.reduceMul, Nat.reduceSub, Nat.reduceLeDiff, Nat.reduceLT, reduceCtorEq]
      refine ⟨⟨(rv ++ [(((c.toNat : Nat) : Int), v)], m2 - 1, t1, rest7, bad7, left7, _), ?_, ?_, ?_, ?_, hr1.hset (hg1.vars g3) (fun _ _ e => by cases e), hset_keep (hg1.vars g2) (fun e => ne32 e.symm), (KB.on hs1).fresh hG3 _, hl7, ?_⟩, ?_, ⟨rfl, rfl, rfl, ?_⟩, sub_rfl⟩
      · intro a ha
        rcases List.mem_append.1 ha with ha | ha
        · exact q1 a ha
        · rw [List.mem_singleton.1 ha]; exact ⟨by show 0 ≤ ((c.toNat : Nat) : Int) ∧ ((c.toNat : Nat) : Int) ≤ 255; omega, hv, hsz⟩
      · show (rv ++ [(((c.toNat : Nat) : Int), v)]).length + (m2 - 1) ≤ 2000
        rw [List.length_append, List.length_singleton]; omega
      · show Rd _ br nl rest7 bad7 left7
        exact hset_keep (hg1.vars hR8) (fun e => ne3 e.symm)
      · show hget _ b3 = some (.vars [.str txt, .sl (as_.map eVal) as_.isEmpty t, .sl ((rv ++ [(((c.toNat : Nat) : Int), v)]).map eRcv) (rv ++ [(((c.toNat : Nat) : Int), v)]).isEmpty t1])
        rw [hne]; exact hget_hset_self (hg1.vars g3)
      · intro z r h1 h2 h3
        obtain ⟨p1, p2, p3, p4, p5, p6⟩ := q9 z r h1 h2 h3
        have hk : rv.length < z.2.2.1.length := by omega
        have hdrop : z.2.2.1.drop rv.length = z.2.2.1[rv.length] :: z.2.2.1.drop (rv.length + 1) := List.drop_eq_getElem_cons hk
        obtain ⟨w1, w2, w3⟩ := h2.input (List.getElem_mem hk)
        rw [hdrop, encRs, List.append_assoc, encR, List.cons_append] at p6
        rcases hc6 with ⟨x1, x2, x3⟩ | ⟨x1, x2⟩
        · rw [x1] at p6; cases p6
        rw [x1] at p6
        obtain ⟨y1, y2⟩ := List.cons.inj p6
        have hck : ((c.toNat : Nat) : Int) = (z.2.2.1[rv.length]).1 := by rw [y1]; exact u8_nat w1
        obtain ⟨e1, e2, e3⟩ := hcan2 (z.2.2.1[rv.length]).2 (encRs (z.2.2.1.drop (rv.length + 1)) ++ r) (by rw [hck]; exact ⟨w2, w3⟩) (by rw [hck]; exact y2) x2
        refine ⟨e3, p2, p3, ?_, ?_, ?_⟩
        · show rv ++ [(((c.toNat : Nat) : Int), v)] = z.2.2.1.take (rv ++ [(((c.toNat : Nat) : Int), v)]).length
          rw [List.length_append, List.length_singleton, List.take_succ_eq_append_getElem hk, ← p4, hck, e1]
        · show (rv ++ [(((c.toNat : Nat) : Int), v)]).length + (m2 - 1) = z.2.2.1.length
          rw [List.length_append, List.length_singleton]; omega
        · show rest7 = encRs (z.2.2.1.drop (rv ++ [(((c.toNat : Nat) : Int), v)]).length) ++ r
          rw [List.length_append, List.length_singleton]; exact e2
      · show m2 - 1 < m2; omega
      · show some (V.int .i64 (IntKind.i64.wrap ((m2 : Int) - 1))) = some (V.int .i64 ((m2 - 1 : Nat) : Int))
        rw [wrap64 (by omega) (by omega)]; congr 2; omega
    · refine aw_exit ?_  -- 2
      refine hK4 _ _ ?_
      refine aw_sr rfl ?_  -- r13
      simp only [go_sem, reduceIte, Nat.reduceEqDiff, Nat.reduceAdd, Nat.reduceMul, Nat.reduceSub, Nat.reduceLeDiff, Nat.reduceLT, reduceCtorEq, q4, q6]
      have h24 := hget_hset_self (y := .vars [.str txt, .sl (as_.map eVal) as_.isEmpty t, .sl (rv.map eRcv) rv.isEmpty t2]) q6
      refine aw_ret ⟨trivial, ?_⟩
      simp only [go_sem, reduceIte, Nat.reduceEqDiff, Nat.reduceAdd, Nat.reduceMul, Nat.reduceSub, Nat.reduceLeDiff, Nat.reduceLT, reduceCtorEq, resL, resOf, h24]
      refine ⟨_, rfl, .agg (cSv (txt, (as_, as_.isEmpty), (rv, rv.isEmpty))), _, ?_, sub_rfl, (txt, (as_, as_.isEmpty), (rv, rv.isEmpty)), rs2, bd2, lf2, ⟨htx, i1, by show as_.length ≤ _; omega, rfl, q1, by show rv.length ≤ _; omega, rfl⟩, rfl, hset_keep q3 (fun e => ne2 e.symm), q7.fresh hb2 _, q8, ?_⟩
      · exact Vle.aggL (.cons (Vle.refl _) (.cons Vle.untag (.cons Vle.untag .nil)))
      · intro z r h1 h2 h3
        obtain ⟨p1, p2, p3, p4, p5, p6⟩ := q9 z r h1 h2 h3
        have hm0 : m2 = 0 := by
          rw [p1] at h
          by_cases hlt : (0 : Int) < (m2 : Int)
          · rw [decide_eq_true hlt] at h; exact absurd h (by decide)
          · omega
        have hlen : rv.length = z.2.2.1.length := by omega
        rw [hlen, List.take_length] at p4
        rw [hlen, List.drop_length, encRs, List.nil_append] at p6
        refine ⟨?_, p6, p1⟩
        obtain ⟨za, ⟨zs, zn⟩, zi, zm⟩ := z
        have e1 := h2.1.2.2.2.1
        have e2 := h2.1.2.2.2.2.2.2
        simp only at p2 p3 p4 e1 e2
        rw [e1, e2, p2, p3, p4]
end Go.Proofs.YtlgfffngojlffaaGreat

/- ReadSaved: what is read of bytes is what they were written for; other bytes are none of what is saved. No conditions. -/
set_option linter.unusedSimpArgs false
set_option linter.unusedVariables false
namespace Go.Proofs.YtlgfffngojlffaaGreat
open Go.Proofs.YtlgfffngojlffaaGreatV
set_option maxHeartbeats 400000
set_option maxRecDepth 100000
def Sv.zero : Sv := ([], ([], true), ([], true))
theorem FineS.zero : FineS Sv.zero := ⟨by decide, (fun v h => by cases h), by decide, rfl, (fun v h => by cases h), by decide, rfl⟩
open Classical in
/-- What is read of bytes. -/
noncomputable def readSF (b : List UInt8) : Sv × Int := if h : ∃ x, GoodS x ∧ encS x = b then (h.choose, 0) else (Sv.zero, 3)
abbrev pairS (p : Sv × Int) : V := .tup [.agg (cSv p.1), .int .i64 p.2]
theorem readSF_no {b : List UInt8} (h : ∀ x, GoodS x → ¬ encS x = b) : readSF b = (Sv.zero, 3) := by
  unfold readSF; rw [dif_neg]; exact fun ⟨x, h1, h2⟩ => h x h1 h2
theorem readSF_yes {b : List UInt8} {v : Sv} (h1 : GoodS v) (h2 : encS v = b) (h : ∀ x, GoodS x → encS x = b → v = x) : readSF b = (v, 0) := by
  unfold readSF
  have he : ∃ x, GoodS x ∧ encS x = b := ⟨v, h1, h2⟩
  rw [dif_pos he, ← h _ he.choose_spec.1 he.choose_spec.2]
theorem readSF_fine (b : List UInt8) : FineS (readSF b).1 := by
  unfold readSF
  split
  · rename_i h; exact h.choose_spec.1.1
  · exact FineS.zero
end Go.Proofs.YtlgfffngojlffaaGreat

/- What is saved, taken: the reference's. No conditions. -/
set_option linter.unusedSimpArgs false
set_option linter.unusedVariables false
namespace Go.Proofs.YtlgfffngojlffaaGreat
open Go.Proofs.YtlgfffngojlffaaGreatV
set_option maxHeartbeats 400000
set_option maxRecDepth 100000
def b2n (b : Bool) : Nat := if b = true then 1 else 0
theorem b2n_le (b : Bool) : b2n b ≤ 1 := by cases b <;> decide
def tsavedQ (br : Nat) (nl : Bool) (rest : List UInt8) (ok : Bool) (G : Heap) (y : V) (G' : Heap) : Prop :=
  ∃ (x : Sv) (rest' : List UInt8) (bad' : Bool), FineS x ∧ y = .agg (cSv x) ∧ Tk G' br nl rest' bad' ∧ KB br G G' ∧ rest'.length ≤ rest.length ∧ (bad' = true → ok = true ∧ rest'.length < rest.length) ∧
    ∀ (z : Sv) (r : List UInt8), rest = encS z ++ r → GoodS z → ok = true → x = z ∧ rest' = r ∧ bad' = true
theorem a_tsaved (br : Nat) (nl : Bool) (rest : List UInt8) (ok : Bool) (G : Heap) (hl : rest.length ≤ 2000000) (hG : Tk G br nl rest ok) :
    ACall Tryz.prog 63 [.ptr br 0] (tsavedQ br nl rest ok G) G := by
  have hG' : hget G br = some (.vars [.sl (bytesV rest) nl .no, .bool ok]) := hG
  refine ACall.weak ?_
  refine acall_body (rs := [.cell 2 44]) Tryz.func63 rfl rfl Tryz.ntmps63 (by kernel_rfl) (Nat.le_of_ble_eq_true rfl) ?_
  refine aw_sr rfl ?_  -- r0
  simp only [go_sem, reduceIte, Nat.reduceEqDiff, Nat.reduceAdd, Nat.reduceMul, Nat.reduceSub, Nat.reduceLeDiff, Nat.reduceLT, reduceCtorEq]
  intro b2 hb2
  have ne2 : ¬ b2 = br := fun e => ne_fresh hG' hb2 e.symm
  refine aw_box1 hb2 fun B1 hs1 h2 => ?_
  have hR1 : Tk B1 br nl rest ok := hs1 _ _ hG'
  refine aw_sr rfl ?_  -- r1
  simp only [go_sem, reduceIte, Nat.reduceEqDiff, Nat.reduceAdd, Nat.reduceMul, Nat.reduceSub, Nat.reduceLeDiff, Nat.reduceLT, reduceCtorEq]
  refine goA_by (a_ttext br nl rest ok B1 (by omega) hR1) fun y G1 hy => ?_
  obtain ⟨txt, rest1, bad1, htx, rfl, hR2, k2, hl1, ho1, hc1⟩ := hy
  have h22 := k2 _ _ ne2 h2
  simp only [go_sem, reduceIte, Nat.reduceEqDiff, Nat.reduceAdd, Nat.reduceMul, Nat.reduceSub, Nat.reduceLeDiff, Nat.reduceLT, reduceCtorEq]
  intro b3 hb3
  have ne3 : ¬ b3 = br := fun e => ne_fresh hR2 hb3 e.symm
  have ne32 : ¬ b3 = b2 := fun e => ne_fresh h22 hb3 e.symm
  have kG : KB br G G1 := KB.trans (B := B1) (fun b o _ h => hs1 _ _ h) k2
  have hG3 : hget G b3 = none := kG.none ne3 hb3
  refine aw_box1 hb3 fun B2 hs2 h3 => ?_
  replace h22 := hs2 _ _ h22
  have hR3 : Tk B2 br nl rest1 bad1 := hs2 _ _ hR2
  have k3 := kG.sub hs2
  refine aw_seq fun K1 hK1 => ?_
  refine aw_sr rfl ?_  -- r2
  simp only [go_sem, reduceIte, Nat.reduceEqDiff, Nat.reduceAdd, Nat.reduceMul, Nat.reduceSub, Nat.reduceLeDiff, Nat.reduceLT, reduceCtorEq]
  refine goA_by (a_tnat br nl rest1 bad1 B2 (by omega) hR3) fun y G2 hy => ?_
  obtain ⟨m0, rest2, bad2, hm0, rfl, hR4, k4, hl2, ho2, hc2⟩ := hy
  have h34 := k4 _ _ ne3 h3
  have h24 := k4 _ _ ne2 h22
  simp only [go_sem, reduceIte, Nat.reduceEqDiff, Nat.reduceAdd, Nat.reduceMul, Nat.reduceSub, Nat.reduceLeDiff, Nat.reduceLT, reduceCtorEq]
  refine aw_block ?_  -- 0
  refine aw_lph (S := {s : List Val × Nat × Tag × List UInt8 × Bool × Heap // (∀ a ∈ s.1, Fine a ∧ a.sz ≤ 401) ∧ s.2.1 < 9223372036854775808 ∧ s.1.length + s.2.2.2.1.length + b2n s.2.2.2.2.1 ≤ rest.length + 1 ∧ Tk s.2.2.2.2.2 br nl s.2.2.2.1 s.2.2.2.2.1 ∧
      hget s.2.2.2.2.2 b3 = some (.vars [.str txt, .sl (s.1.map eVal) s.1.isEmpty s.2.2.1, .sl [] true .full]) ∧ Rm (off br G) s.2.2.2.2.2 4 s.2.2.1 ∧
      hget s.2.2.2.2.2 b2 = some (.vars [.str [], .sl [] true .full, .sl [] true .full]) ∧ KB br G s.2.2.2.2.2 ∧ s.2.2.2.1.length ≤ rest.length ∧ (s.2.2.2.2.1 = true → ok = true ∧ s.2.2.2.1.length < rest.length) ∧
      ∀ (z : Sv) (r : List UInt8), rest = encS z ++ r → GoodS z → ok = true → s.2.2.2.2.1 = true ∧ txt = z.1 ∧ s.1 = z.2.1.1.take s.1.length ∧ s.1.length + s.2.1 = z.2.1.1.length ∧ s.2.2.2.1 = encVs (z.2.1.1.drop s.1.length) ++ (natB z.2.2.1.length ++ (encRs z.2.2.1 ++ r))})
    (fun s => [(0, .ptr br 0), (2, .ptr b2 0), (3, .ptr b3 0), (4, .int .i64 ((s.1.2.1 : Nat) : Int))]) (fun s => s.1.2.2.2.2.2) (fun s => s.1.2.1)
    ⟨([], m0, .full, rest2, bad2, G2), by simp, hm0, by have := b2n_le bad2; show 0 + rest2.length + b2n bad2 ≤ _; omega, hR4, h34, Rm.start _ _ _, h24, k3.trans k4, by show rest2.length ≤ _; omega, fun e => by have h2 := ho2 e; have h1 := ho1 h2.1; exact ⟨h1.1, by show rest2.length < _; omega⟩, ?_⟩ ?_ (fun _ _ h => h) ?_
  · intro z r h1 h2 h3
    rw [encS, List.append_assoc, List.append_assoc, List.append_assoc, List.append_assoc] at h1
    obtain ⟨a1, a2, a3⟩ := hc1 _ _ h1 h2.1.1 h3
    obtain ⟨b1', b2', b3'⟩ := hc2 _ _ a2 (by have := (checkS_good h2.2).2.1.1; omega) a3
    refine ⟨b3', a1, rfl, ?_, ?_⟩
    · show 0 + m0 = _; omega
    · exact b2'
  · simp only [go_sem, reduceIte, Nat.reduceEqDiff, Nat.reduceAdd, Nat.reduceMul, Nat.reduceSub, Nat.reduceLeDiff, Nat.reduceLT, reduceCtorEq]
  intro ⟨⟨as_, m, t, rs, bd, H⟩, i1, i2, i3, i5, i6, i7, i8, i9, i10, i12, i11⟩
  simp only at i1 i2 i3 i5 i6 i7 i8 i9 i10 i12 i11 ⊢
  have i5' : hget H br = some (.vars [.sl (bytesV rs) nl .no, .bool bd]) := i5
  refine aw_seq fun K3 hK3 => ?_
  refine aw_sr rfl ?_  -- r3
  simp only [go_sem, reduceIte, Nat.reduceEqDiff, Nat.reduceAdd, Nat.reduceMul, Nat.reduceSub, Nat.reduceLeDiff, Nat.reduceLT, reduceCtorEq, i5']
  refine aw_if rfl (fun h => ?_) (fun h => ?_)
  · have hmb : 0 < m ∧ bd = true := by
      rw [Bool.and_eq_true] at h
      obtain ⟨q1, q2⟩ := h
      rw [decide_eq_true_eq] at q1
      exact ⟨by omega, by simpa using q2⟩
    obtain ⟨hm, rfl⟩ := hmb
    refine aw_skip (hK3 _ _ ?_)
    refine aw_seq fun K4 hK4 => ?_
    refine aw_block ?_  -- 1
    refine aw_rgf [(0,true),(2,true)] 1 3 [(3,false),(4,true),(5,false),(6,true),(7,false)] [(4,true),(1,false),(5,false),(6,true),(7,false)] mixed rfl (by kernel_rfl) ?_  -- r5
    simp only [go_sem, reduceIte, Nat.reduceEqDiff, Nat.reduceAdd, Nat.reduceMul, Nat.reduceSub, Nat.reduceLeDiff, Nat.reduceLT, reduceCtorEq, i6]
    refine ⟨?_, ?_⟩
    all_goals
      refine goA_by (a_whole br nl rs true H (by omega) i5) fun y G1 hy => ?_
      obtain ⟨v, rs', bd', hv, rfl, j1, jk, j3, j2, j7, j6⟩ := hy
      have k6 := jk _ _ ne3 i6
      have k8 := jk _ _ ne2 i8
      have kr := Rm.kb i7 jk i5'
      have happ : as_.map eVal ++ [[.int .i64 v.kind, .int .i64 v.num, .str v.text, .sl (v.args.map eVal) v.nl .no]] = (as_ ++ [v]).map eVal := by rw [List.map_append, List.map_cons, List.map_nil, eC]
      simp only [go_sem, reduceIte, Nat.reduceEqDiff, Nat.reduceAdd, Nat.reduceMul, Nat.reduceSub, Nat.reduceLeDiff, Nat.reduceLT, reduceCtorEq, k6]
      refine goP_rm kr (i9.trans jk).off ?_ fun t1 H1 hr1 hs1 hg1 => ?_
      · exact ⟨rfl, rfl, by decide, wid_map (g := eVal) (fun _ => by simp [eC, cV]) _, wid_one rfl, sca_one rfl, by simp; omega, by simp; omega⟩
      simp only [go_sem, reduceIte, Nat.reduceEqDiff, Nat.reduceAdd, Nat.reduceMul, Nat.reduceSub, Nat.reduceLeDiff, Nat.reduceLT, reduceCtorEq, hg1.vars k6, happ, Bool.and_false]
      have hne : (as_ ++ [v]).isEmpty = false := by cases as_ <;> rfl
      refine hK4 _ _ ?_
      refine aw_rg rfl ?_  -- r4
      simp only [go_sem, reduceIte, Nat.reduceEqDiff, Nat.reduceAdd, Nat.reduceMul, Nat.reduceSub, Nat.reduceLeDiff, Nat.reduceLT, reduceCtorEq]
      refine ⟨⟨(as_ ++ [v], m - 1, t1, rs', bd', _), ?_, ?_, ?_, ?_, ?_, hr1.hset (hg1.vars k6) (fun _ _ e => by cases e), hset_keep (hg1.vars k8) (fun e => ne32 e.symm), (KB.on hs1).fresh hG3 _, Nat.le_trans j2 i10, fun e => ⟨(i12 rfl).1, Nat.lt_of_lt_of_le (j7 e).2 i10⟩, ?_⟩, ?_, ⟨rfl, rfl, rfl, ?_⟩, sub_rfl⟩
      · intro a ha
        rcases List.mem_append.1 ha with ha | ha
        · exact i1 a ha
        · rw [List.mem_singleton.1 ha]; exact ⟨hv, j3⟩
      · show m - 1 < 9223372036854775808; omega
      · show (as_ ++ [v]).length + rs'.length + b2n bd' ≤ rest.length + 1
        rw [List.length_append, List.length_singleton]
        have i3' : as_.length + rs.length + 1 ≤ rest.length + 1 := i3
        cases bd' with
        | false => show as_.length + 1 + rs'.length + 0 ≤ _; omega
        | true => have := (j7 rfl).2; show as_.length + 1 + rs'.length + 1 ≤ _; omega
      · show Tk _ br nl rs' bd'
        exact hset_keep (hg1.vars j1) (fun e => ne3 e.symm)
      · show hget _ b3 = some (.vars [.str txt, .sl ((as_ ++ [v]).map eVal) (as_ ++ [v]).isEmpty t1, .sl [] true .full])
        rw [hne]; exact hget_hset_self (hg1.vars k6)
      · intro z r h1 h2 h3
        obtain ⟨p1, p4, p5, p6, p7⟩ := i11 z r h1 h2 h3
        have hk : as_.length < z.2.1.1.length := by omega
        have hdrop : z.2.1.1.drop as_.length = z.2.1.1[as_.length] :: z.2.1.1.drop (as_.length + 1) := List.drop_eq_getElem_cons hk
        have hg := h2.state (List.getElem_mem hk)
        rw [hdrop, encVs, List.append_assoc] at p7
        obtain ⟨q1, q2, q3⟩ := j6 _ _ p7 hg.1 hg.small.2 hg.small.1 rfl
        refine ⟨q3, p4, ?_, ?_, ?_⟩
        · show as_ ++ [v] = z.2.1.1.take (as_ ++ [v]).length
          rw [List.length_append, List.length_singleton, List.take_succ_eq_append_getElem hk, ← p5, q1]
        · show (as_ ++ [v]).length + (m - 1) = z.2.1.1.length
          rw [List.length_append, List.length_singleton]; omega
        · show rs' = encVs (z.2.1.1.drop (as_ ++ [v]).length) ++ _
          rw [List.length_append, List.length_singleton]; exact q2
      · show m - 1 < m; omega
      · show some (V.int .i64 (IntKind.i64.wrap ((m : Int) - 1))) = some (V.int .i64 ((m - 1 : Nat) : Int))
        rw [wrap64 (by omega) (by omega)]; congr 2; omega
  · refine aw_exit ?_  -- 0
    refine hK1 _ _ ?_
    have hcan : ∀ (z : Sv) (r : List UInt8), rest = encS z ++ r → GoodS z → ok = true → bd = true ∧ txt = z.1 ∧ as_ = z.2.1.1 ∧ rs = natB z.2.2.1.length ++ (encRs z.2.2.1 ++ r) := by
      intro z r h1 h2 h3
      obtain ⟨p1, p4, p5, p6, p7⟩ := i11 z r h1 h2 h3
      have hm0 : m = 0 := by
        rw [p1] at h
        by_cases hlt : (0 : Int) < (m : Int)
        · rw [decide_eq_true hlt] at h; exact absurd h (by decide)
        · omega
      have hlen : as_.length = z.2.1.1.length := by omega
      rw [hlen, List.take_length] at p5
      rw [hlen, List.drop_length, encVs, List.nil_append] at p7
      exact ⟨p1, p4, p5, p7⟩
    refine aw_seq fun K4 hK4 => ?_
    refine aw_sr rfl ?_  -- r6
    simp only [go_sem, reduceIte, Nat.reduceEqDiff, Nat.reduceAdd, Nat.reduceMul, Nat.reduceSub, Nat.reduceLeDiff, Nat.reduceLT, reduceCtorEq]
    refine goA_by (a_tnat br nl rs bd H (by omega) i5) fun y G5 hy => ?_
    obtain ⟨m1, rest5, bad5, hm1, rfl, hR5, k5, hl5, ho5, hc5⟩ := hy
    have h35 := k5 _ _ ne3 i6
    have h25 := k5 _ _ ne2 i8
    simp only [go_sem, reduceIte, Nat.reduceEqDiff, Nat.reduceAdd, Nat.reduceMul, Nat.reduceSub, Nat.reduceLeDiff, Nat.reduceLT, reduceCtorEq]
    refine aw_block ?_  -- 2
    refine aw_lph (S := {s : List Rcv × Nat × Tag × List UInt8 × Bool × Heap // (∀ a ∈ s.1, (0 ≤ a.1 ∧ a.1 ≤ 255) ∧ Fine a.2 ∧ a.2.sz ≤ 401) ∧ s.2.1 < 9223372036854775808 ∧ s.1.length + s.2.2.2.1.length + b2n s.2.2.2.2.1 ≤ rest.length + 1 ∧ Tk s.2.2.2.2.2 br nl s.2.2.2.1 s.2.2.2.2.1 ∧
        hget s.2.2.2.2.2 b3 = some (.vars [.str txt, .sl (as_.map eVal) as_.isEmpty t, .sl (s.1.map eRcv) s.1.isEmpty s.2.2.1]) ∧ Rm (off br G) s.2.2.2.2.2 5 s.2.2.1 ∧
        hget s.2.2.2.2.2 b2 = some (.vars [.str [], .sl [] true .full, .sl [] true .full]) ∧ KB br G s.2.2.2.2.2 ∧ s.2.2.2.1.length ≤ rest.length ∧ (s.2.2.2.2.1 = true → ok = true ∧ s.2.2.2.1.length < rest.length) ∧
        ∀ (z : Sv) (r : List UInt8), rest = encS z ++ r → GoodS z → ok = true → s.2.2.2.2.1 = true ∧ txt = z.1 ∧ as_ = z.2.1.1 ∧ s.1 = z.2.2.1.take s.1.length ∧ s.1.length + s.2.1 = z.2.2.1.length ∧ s.2.2.2.1 = encRs (z.2.2.1.drop s.1.length) ++ r})
      (fun s => [(0, .ptr br 0), (2, .ptr b2 0), (3, .ptr b3 0), (5, .int .i64 ((s.1.2.1 : Nat) : Int))]) (fun s => s.1.2.2.2.2.2) (fun s => s.1.2.1)
      ⟨([], m1, .full, rest5, bad5, G5), by simp, hm1, by have := b2n_le bad5; show 0 + rest5.length + b2n bad5 ≤ _; omega, hR5, h35, Rm.start _ _ _, h25, i9.trans k5, by show rest5.length ≤ _; omega, fun e => by have h5 := ho5 e; exact ⟨(i12 h5.1).1, by show rest5.length < _; omega⟩, ?_⟩ ?_ (fun _ _ h => h) ?_
    · intro z r h1 h2 h3
      obtain ⟨p1, p2, p3, p4⟩ := hcan z r h1 h2 h3
      obtain ⟨a1, a2, a3⟩ := hc5 _ _ p4 (by have := (checkS_good h2.2).2.1.2; omega) p1
      refine ⟨a3, p2, p3, rfl, ?_, ?_⟩
      · show 0 + m1 = _; omega
      · exact a2
    · simp only [go_sem, reduceIte, Nat.reduceEqDiff, Nat.reduceAdd, Nat.reduceMul, Nat.reduceSub, Nat.reduceLeDiff, Nat.reduceLT, reduceCtorEq]
    intro ⟨⟨rv, m2, t2, rs2, bd2, H2⟩, q1, q2, qc, q3, q4, q5, q6, q7, q8, qo, q9⟩
    simp only at q1 q2 qc q3 q4 q5 q6 q7 q8 qo q9 ⊢
    have q3' : hget H2 br = some (.vars [.sl (bytesV rs2) nl .no, .bool bd2]) := q3
    refine aw_seq fun K5 hK5 => ?_
    refine aw_sr rfl ?_  -- r7
    simp only [go_sem, reduceIte, Nat.reduceEqDiff, Nat.reduceAdd, Nat.reduceMul, Nat.reduceSub, Nat.reduceLeDiff, Nat.reduceLT, reduceCtorEq, q3']
    refine aw_if rfl (fun h => ?_) (fun h => ?_)
    · have hmb : 0 < m2 ∧ bd2 = true := by
        rw [Bool.and_eq_true] at h
        obtain ⟨x1, x2⟩ := h
        rw [decide_eq_true_eq] at x1
        exact ⟨by omega, by simpa using x2⟩
      obtain ⟨hm, rfl⟩ := hmb
      refine aw_skip (hK5 _ _ ?_)
      refine aw_seq fun K6 hK6 => ?_
      refine aw_block ?_  -- 3
      refine aw_sr rfl ?_  -- r9
      simp only [go_sem, reduceIte, Nat.reduceEqDiff, Nat.reduceAdd, Nat.reduceMul, Nat.reduceSub, Nat.reduceLeDiff, Nat.reduceLT, reduceCtorEq]
      refine goA_by (a_one br nl rs2 true H2 (by omega) q3) fun y G6 hy => ?_
      obtain ⟨c, rest6, bad6, rfl, hR6, k6, hc6⟩ := hy
      have hl6 : rest6.length ≤ rs2.length := by
        rcases hc6 with ⟨x1, x2, x3⟩ | ⟨x1, x2⟩
        · rw [x2]; exact Nat.zero_le _
        · rw [x1, List.length_cons]; omega
      have hst6 : bad6 = true → rest6.length < rs2.length := fun e => by
        rcases hc6 with ⟨x1, x2, x3⟩ | ⟨x1, x2⟩
        · rw [x3] at e; cases e
        · rw [x1, List.length_cons]; omega
      have hcl := c.toNat_lt
      have hwc : IntKind.i64.wrap ((c.toNat : Nat) : Int) = ((c.toNat : Nat) : Int) := wrap64 (by omega) (by omega)
      have u3 := k6 _ _ ne3 q4
      have u2 := k6 _ _ ne2 q6
      have ur := Rm.kb q5 k6 q3'
      simp only [go_sem, reduceIte, Nat.reduceEqDiff, Nat.reduceAdd, Nat.reduceMul, Nat.reduceSub, Nat.reduceLeDiff, Nat.reduceLT, reduceCtorEq]
      intro b6 hb6
      have ne6 : ¬ b6 = br := fun e => ne_fresh hR6 hb6 e.symm
      have ne63 : ¬ b6 = b3 := fun e => ne_fresh u3 hb6 e.symm
      have ne62 : ¬ b6 = b2 := fun e => ne_fresh u2 hb6 e.symm
      have hG6 : hget G b6 = none := (q7.trans k6).none ne6 hb6
      refine aw_box1 hb6 fun B6 hs6 h6 => ?_
      replace u3 := hs6 _ _ u3
      replace u2 := hs6 _ _ u2
      replace ur := ur.sub hs6
      have hR7 : Tk B6 br nl rest6 bad6 := hs6 _ _ hR6
      have hR7' : hget B6 br = some (.vars [.sl (bytesV rest6) nl .no, .bool bad6]) := hR7
      have kk6 := (q7.trans k6).sub hs6
      refine aw_mid (fun f' G' => FSub [(0, .ptr br 0), (2, .ptr b2 0), (3, .ptr b3 0), (5, .int .i64 ((m2 : Nat) : Int)), (6, .ptr b6 0)] f' ∧ ∃ v rest7 bad7, Fine v ∧ v.sz ≤ 401 ∧ (bad7 = true → rest7.length < rs2.length) ∧ rest7.length ≤ rs2.length ∧ Tk G' br nl rest7 bad7 ∧ hget G' b6 = some (.vars (cRcv (((c.toNat : Nat) : Int), v))) ∧ hget G' b3 = some (.vars [.str txt, .sl (as_.map eVal) as_.isEmpty t, .sl (rv.map eRcv) rv.isEmpty t2]) ∧ Rm (off br G) G' 5 t2 ∧ hget G' b2 = some (.vars [.str [], .sl [] true .full, .sl [] true .full]) ∧ KB br G G' ∧ rest7.length ≤ rest.length ∧
        ∀ (z : Val) (r : List UInt8), ((¬ ((c.toNat : Nat) : Int) = 3 → Good z) ∧ (((c.toNat : Nat) : Int) = 3 → z = Val.zero)) → rest6 = (if ((c.toNat : Nat) : Int) = 3 then [] else encV z) ++ r → bad6 = true → v = z ∧ rest7 = r ∧ bad7 = true) ?_ ?_
      · refine aw_sr rfl ?_  -- r10
        simp only [go_sem, reduceIte, Nat.reduceEqDiff, Nat.reduceAdd, Nat.reduceMul, Nat.reduceSub, Nat.reduceLeDiff, Nat.reduceLT, reduceCtorEq, h6]
        refine aw_if rfl (fun h => ?_) (fun h => ?_)
        · have hk : ¬ ((c.toNat : Nat) : Int) = 3 := by simpa using h
          refine aw_rg rfl ?_  -- r11
          simp only [go_sem, reduceIte, Nat.reduceEqDiff, Nat.reduceAdd, Nat.reduceMul, Nat.reduceSub, Nat.reduceLeDiff, Nat.reduceLT, reduceCtorEq]
          refine goA_by (a_whole br nl rest6 bad6 B6 (by omega) hR7) fun y G7 hy => ?_
          obtain ⟨v, rest7, bad7, hv, rfl, j1, jk, j3, j2, j7, j6⟩ := hy
          have h67 := jk _ _ ne6 h6
          simp only [go_sem, reduceIte, Nat.reduceEqDiff, Nat.reduceAdd, Nat.reduceMul, Nat.reduceSub, Nat.reduceLeDiff, Nat.reduceLT, reduceCtorEq, h67]
          refine ⟨⟨rfl, rfl, rfl, rfl, rfl⟩, v, rest7, bad7, hv, j3, fun e => by have e1 := j7 e; have e2 := hst6 e1.1; omega, by omega, hset_keep j1 (fun e => ne6 e.symm), hget_hset_self h67, hset_keep (jk _ _ ne3 u3) (fun e => ne63 e.symm), (Rm.kb ur jk hR7').hset h67 (fun _ _ e => by cases e), hset_keep (jk _ _ ne2 u2) (fun e => ne62 e.symm), (kk6.trans jk).fresh hG6 _, by omega, ?_⟩
          intro z r hz h1 h2
          rw [if_neg hk] at h1
          have hg := hz.1 hk
          exact j6 z r h1 hg.1 hg.small.2 hg.small.1 h2
        · have hk : ((c.toNat : Nat) : Int) = 3 := by simpa using h
          refine AW.hle (ds := cRcv (((c.toNat : Nat) : Int), Val.zero)) h6 (by repeat (first | exact .nil | refine .cons (Vle.refl _) ?_ | refine .cons Vle.untag ?_ | refine .cons (Vle.aggL ?_) ?_ | refine .cons (Vle.slE ?_) ?_)) ?_
          refine aw_skip ⟨⟨rfl, rfl, rfl, rfl, rfl⟩, Val.zero, rest6, bad6, Fine.zero, by decide, hst6, hl6, hset_keep hR7 (fun e => ne6 e.symm), hget_hset_self h6, hset_keep u3 (fun e => ne63 e.symm), ur.hset h6 (fun _ _ e => by cases e), hset_keep u2 (fun e => ne62 e.symm), kk6.fresh hG6 _, by omega, ?_⟩
          intro z r hz h1 h2
          rw [if_pos hk, List.nil_append] at h1
          exact ⟨(hz.2 hk).symm, h1, h2⟩
      intro f' B7 ⟨hf, v, rest7, bad7, hv, hsz, hst7, hle7, hR8, g6, g3, gr, g2, kk7, hl7, hcan2⟩
      refine AW.of_fsub hf ?_
      have happ : rv.map eRcv ++ [[.int .i64 ((c.toNat : Nat) : Int), .int .i64 v.kind, .int .i64 v.num, .str v.text, .sl (v.args.map eVal) v.nl .no]] = (rv ++ [(((c.toNat : Nat) : Int), v)]).map eRcv := by rw [List.map_append, List.map_cons, List.map_nil]; rfl
      refine aw_rg rfl ?_  -- r12
      simp only [go_sem, reduceIte, Nat.reduceEqDiff, Nat.reduceAdd, Nat.reduceMul, Nat.reduceSub, Nat.reduceLeDiff, Nat.reduceLT, reduceCtorEq, g3, g6]
      refine goP_rm gr kk7.off ?_ fun t1 H1 hr1 hs1 hg1 => ?_
      · exact ⟨rfl, rfl, by decide, wid_map (g := eRcv) (fun _ => rfl) _, wid_one rfl, sca_one rfl, by simp; omega, by simp; omega⟩
      simp only [go_sem, reduceIte, Nat.reduceEqDiff, Nat.reduceAdd, Nat.reduceMul, Nat.reduceSub, Nat.reduceLeDiff, Nat.reduceLT, reduceCtorEq, hg1.vars g3, happ, Bool.and_false]
      have hne : (rv ++ [(((c.toNat : Nat) : Int), v)]).isEmpty = false := by cases rv <;> rfl
      refine hK6 _ _ ?_
      refine aw_rg rfl ?_  -- r8
      simp only [go_sem, reduceIte, Nat.reduceEqDiff, Nat.reduceAdd, Nat.reduceMul, Nat.reduceSub, Nat.reduceLeDiff, Nat.reduceLT, reduceCtorEq]
      refine ⟨⟨(rv ++ [(((c.toNat : Nat) : Int), v)], m2 - 1, t1, rest7, bad7, _), ?_, ?_, ?_, ?_, ?_, hr1.hset (hg1.vars g3) (fun _ _ e => by cases e), hset_keep (hg1.vars g2) (fun e => ne32 e.symm), (KB.on hs1).fresh hG3 _, hl7, fun e => ⟨(qo rfl).1, Nat.lt_of_lt_of_le (hst7 e) q8⟩, ?_⟩, ?_, ⟨rfl, rfl, rfl, ?_⟩, sub_rfl⟩
      · intro a ha
        rcases List.mem_append.1 ha with ha | ha
        · exact q1 a ha
        · rw [List.mem_singleton.1 ha]; exact ⟨by show 0 ≤ ((c.toNat : Nat) : Int) ∧ ((c.toNat : Nat) : Int) ≤ 255; omega, hv, hsz⟩
      · show m2 - 1 < 9223372036854775808; omega
      · show (rv ++ [(((c.toNat : Nat) : Int), v)]).length + rest7.length + b2n bad7 ≤ rest.length + 1
        rw [List.length_append, List.length_singleton]
        have qc' : rv.length + rs2.length + 1 ≤ rest.length + 1 := qc
        cases bad7 with
        | false => show rv.length + 1 + rest7.length + 0 ≤ _; omega
        | true => have := hst7 rfl; show rv.length + 1 + rest7.length + 1 ≤ _; omega
      · show Tk _ br nl rest7 bad7
        exact hset_keep (hg1.vars hR8) (fun e => ne3 e.symm)
      · show hget _ b3 = some (.vars [.str txt, .sl (as_.map eVal) as_.isEmpty t, .sl ((rv ++ [(((c.toNat : Nat) : Int), v)]).map eRcv) (rv ++ [(((c.toNat : Nat) : Int), v)]).isEmpty t1])
        rw [hne]; exact hget_hset_self (hg1.vars g3)
      · intro z r h1 h2 h3
        obtain ⟨p1, p2, p3, p4, p5, p6⟩ := q9 z r h1 h2 h3
        have hk : rv.length < z.2.2.1.length := by omega
        have hdrop : z.2.2.1.drop rv.length = z.2.2.1[rv.length] :: z.2.2.1.drop (rv.length + 1) := List.drop_eq_getElem_cons hk
        obtain ⟨w1, w2, w3⟩ := h2.input (List.getElem_mem hk)
        rw [hdrop, encRs, List.append_assoc, encR, List.cons_append] at p6
        rcases hc6 with ⟨x1, x2, x3⟩ | ⟨x1, x2⟩
        · rw [x1] at p6; cases p6
        rw [x1] at p6
        obtain ⟨y1, y2⟩ := List.cons.inj p6
        have hck : ((c.toNat : Nat) : Int) = (z.2.2.1[rv.length]).1 := by rw [y1]; exact u8_nat w1
        obtain ⟨e1, e2, e3⟩ := hcan2 (z.2.2.1[rv.length]).2 (encRs (z.2.2.1.drop (rv.length + 1)) ++ r) (by rw [hck]; exact ⟨w2, w3⟩) (by rw [hck]; exact y2) x2
        refine ⟨e3, p2, p3, ?_, ?_, ?_⟩
        · show rv ++ [(((c.toNat : Nat) : Int), v)] = z.2.2.1.take (rv ++ [(((c.toNat : Nat) : Int), v)]).length
          rw [List.length_append, List.length_singleton, List.take_succ_eq_append_getElem hk, ← p4, hck, e1]
        · show (rv ++ [(((c.toNat : Nat) : Int), v)]).length + (m2 - 1) = z.2.2.1.length
          rw [List.length_append, List.length_singleton]; omega
        · show rest7 = encRs (z.2.2.1.drop (rv ++ [(((c.toNat : Nat) : Int), v)]).length) ++ r
          rw [List.length_append, List.length_singleton]; exact e2
      · show m2 - 1 < m2; omega
      · show some (V.int .i64 (IntKind.i64.wrap ((m2 : Int) - 1))) = some (V.int .i64 ((m2 - 1 : Nat) : Int))
        rw [wrap64 (by omega) (by omega)]; congr 2; omega
    · refine aw_exit ?_  -- 2
      refine hK4 _ _ ?_
      refine aw_sr rfl ?_  -- r13
      simp only [go_sem, reduceIte, Nat.reduceEqDiff, Nat.reduceAdd, Nat.reduceMul, Nat.reduceSub, Nat.reduceLeDiff, Nat.reduceLT, reduceCtorEq, q4, q6]
      have h24 := hget_hset_self (y := .vars [.str txt, .sl (as_.map eVal) as_.isEmpty t, .sl (rv.map eRcv) rv.isEmpty t2]) q6
      refine aw_ret ⟨trivial, ?_⟩
      simp only [go_sem, reduceIte, Nat.reduceEqDiff, Nat.reduceAdd, Nat.reduceMul, Nat.reduceSub, Nat.reduceLeDiff, Nat.reduceLT, reduceCtorEq, resL, resOf, h24]
      refine ⟨_, rfl, .agg (cSv (txt, (as_, as_.isEmpty), (rv, rv.isEmpty))), _, ?_, sub_rfl, (txt, (as_, as_.isEmpty), (rv, rv.isEmpty)), rs2, bd2, ⟨htx, i1, by show as_.length ≤ _; omega, rfl, q1, by show rv.length ≤ _; omega, rfl⟩, rfl, hset_keep q3 (fun e => ne2 e.symm), q7.fresh hb2 _, q8, qo, ?_⟩
      · exact Vle.aggL (.cons (Vle.refl _) (.cons Vle.untag (.cons Vle.untag .nil)))
      · intro z r h1 h2 h3
        obtain ⟨p1, p2, p3, p4, p5, p6⟩ := q9 z r h1 h2 h3
        have hm0 : m2 = 0 := by
          rw [p1] at h
          by_cases hlt : (0 : Int) < (m2 : Int)
          · rw [decide_eq_true hlt] at h; exact absurd h (by decide)
          · omega
        have hlen : rv.length = z.2.2.1.length := by omega
        rw [hlen, List.take_length] at p4
        rw [hlen, List.drop_length, encRs, List.nil_append] at p6
        refine ⟨?_, p6, p1⟩
        obtain ⟨za, ⟨zs, zn⟩, zi, zm⟩ := z
        have e1 := h2.1.2.2.2.1
        have e2 := h2.1.2.2.2.2.2.2
        simp only at p2 p3 p4 e1 e2
        rw [e1, e2, p2, p3, p4]
end Go.Proofs.YtlgfffngojlffaaGreat

/- SavedOf: as ReadSaved; and the law. No conditions. -/
set_option linter.unusedSimpArgs false
set_option linter.unusedVariables false
namespace Go.Proofs.YtlgfffngojlffaaGreat
open Go.Proofs.YtlgfffngojlffaaGreatV
set_option maxHeartbeats 400000
set_option maxRecDepth 100000
theorem eqF_refl {A : Type} {f : A → A → Bool} {l : List A} (h : ∀ x ∈ l, f x x = true) : eqF f l l = true := by
  rw [eqF, decide_eq_true rfl, Bool.true_and, List.all_eq_true]
  intro p hp
  obtain ⟨i, hi, rfl⟩ := List.getElem_of_mem hp
  rw [List.getElem_zip]
  exact h _ (List.getElem_mem _)
theorem sameSav_refl (a : Sv) : sameSav a a = true := by
  rw [sameSav, decide_eq_true rfl, eqF_refl (fun x _ => sameV_refl x), eqF_refl (fun x _ => by rw [sameI, decide_eq_true rfl, sameV_refl]; rfl)]; rfl
theorem q_sameS (a : Sv) (h : FineS a) : Quiet Tryz.prog 37 [.agg (cSv a), .agg (cSv a)] (.bool true) := by
  have := q_sameSaved a a (by have := h.2.2.1; omega) (by have := h.2.2.2.2.2.1; omega) (fun x hx => (h.2.1 x hx).1.ok) (fun x hx => (h.2.2.2.2.1 x hx).2.1.ok)
  rw [sameSav_refl] at this
  exact this
namespace valueSaved
end valueSaved
end Go.Proofs.YtlgfffngojlffaaGreat

/- A parcel as a reader may make one; what is read of bytes. No conditions. -/
set_option linter.unusedSimpArgs false
set_option linter.unusedVariables false
namespace Go.Proofs.YtlgfffngojlffaaGreat
open Go.Proofs.YtlgfffngojlffaaGreatV
set_option maxHeartbeats 400000
set_option maxRecDepth 100000
abbrev InI (n : Int) : Prop := IntKind.i64.min ≤ n ∧ n ≤ IntKind.i64.max
/-- As a reader may make one. -/
def FineP (x : Pcl) : Prop := InI x.1 ∧ FineS x.2.1 ∧ ((∀ l ∈ x.2.2.1.1, FineL l) ∧ x.2.2.1.1.length ≤ 4000000 ∧ x.2.2.1.2 = x.2.2.1.1.isEmpty) ∧ InI x.2.2.2.1 ∧
  ((∀ n ∈ x.2.2.2.2.1.1, InI n) ∧ x.2.2.2.2.1.1.length ≤ 4000000 ∧ x.2.2.2.2.1.2 = x.2.2.2.2.1.1.isEmpty) ∧ ((∀ n ∈ x.2.2.2.2.2.1, InI n) ∧ x.2.2.2.2.2.1.length ≤ 4000000 ∧ x.2.2.2.2.2.2 = x.2.2.2.2.2.1.isEmpty)
theorem FineP.ok {x : Pcl} (h : FineP x) : OkPcl x := by
  obtain ⟨h1, h2, ⟨h3, h4, h5⟩, h6, ⟨h7, h8, h9⟩, h10, h11, h12⟩ := h
  exact ⟨h1, h2.ok, by omega, fun l hl => (h3 l hl).ok, h6, by omega, h7, by omega, h10⟩
def GoodP (x : Pcl) : Prop := FineP x ∧ checkP x = 0
theorem GoodP.saved {x : Pcl} (h : GoodP x) : GoodS x.2.1 := ⟨h.1.2.1, (checkP_good h.2).2.2.1⟩
theorem GoodP.letter {x : Pcl} (h : GoodP x) {l : Lt} (hl : l ∈ x.2.2.1.1) : GoodL l := ⟨h.1.2.2.1.1 l hl, (checkP_good h.2).2.2.2.1 l hl⟩
theorem GoodP.watch {x : Pcl} (h : GoodP x) {n : Int} (hn : n ∈ x.2.2.2.2.1.1) : InI n ∧ 1 ≤ n := ⟨h.1.2.2.2.2.1.1 n hn, (checkP_good h.2).2.2.2.2.1 n hn⟩
theorem GoodP.link {x : Pcl} (h : GoodP x) {n : Int} (hn : n ∈ x.2.2.2.2.2.1) : InI n ∧ 1 ≤ n := ⟨h.1.2.2.2.2.2.1 n hn, (checkP_good h.2).2.2.2.2.2 n hn⟩
def Pcl.zero : Pcl := (0, Sv.zero, ([], true), 0, ([], true), ([], true))
theorem FineP.zero : FineP Pcl.zero := ⟨by decide, FineS.zero, ⟨(fun v h => by cases h), by decide, rfl⟩, by decide, ⟨(fun v h => by cases h), by decide, rfl⟩, (fun v h => by cases h), by decide, rfl⟩
open Classical in
/-- What is read of bytes. -/
noncomputable def readPF (b : List UInt8) : Pcl × Int := if h : ∃ x, GoodP x ∧ encP x = b then (h.choose, 0) else (Pcl.zero, 3)
abbrev pairP (p : Pcl × Int) : V := .tup [.agg (cPcl p.1), .int .i64 p.2]
theorem readPF_no {b : List UInt8} (h : ∀ x, GoodP x → ¬ encP x = b) : readPF b = (Pcl.zero, 3) := by
  unfold readPF; rw [dif_neg]; exact fun ⟨x, h1, h2⟩ => h x h1 h2
theorem readPF_yes {b : List UInt8} {v : Pcl} (h1 : GoodP v) (h2 : encP v = b) (h : ∀ x, GoodP x → encP x = b → v = x) : readPF b = (v, 0) := by
  unfold readPF
  have he : ∃ x, GoodP x ∧ encP x = b := ⟨v, h1, h2⟩
  rw [dif_pos he, ← h _ he.choose_spec.1 he.choose_spec.2]
theorem readPF_fine (b : List UInt8) : FineP (readPF b).1 := by
  unfold readPF
  split
  · rename_i h; exact h.choose_spec.1.1
  · exact FineP.zero
/-- What is read with no fault is what the bytes were written for. -/
theorem readPF_ok {b : List UInt8} (h : (readPF b).2 = 0) : GoodP (readPF b).1 ∧ encP (readPF b).1 = b := by
  unfold readPF at h ⊢
  split
  · rename_i he; exact he.choose_spec
  · rename_i he; rw [dif_neg he] at h; cases h
theorem encI_drop {l : List Int} {i : Nat} (h : i < l.length) : encI (l.drop i) = natB (l[i]).toNat ++ encI (l.drop (i + 1)) := by
  rw [List.drop_eq_getElem_cons h, encI, List.flatMap_cons]; rfl
theorem encLs_drop {l : List Lt} {i : Nat} (h : i < l.length) : encLs (l.drop i) = encL l[i] ++ encLs (l.drop (i + 1)) := by
  rw [List.drop_eq_getElem_cons h, encLs, List.flatMap_cons]; rfl
def numbersQ (br : Nat) (nl : Bool) (rest : List UInt8) (bad : Bool) (G : Heap) (y : V) (G' : Heap) : Prop :=
  ∃ (l : List Int) (rest' : List UInt8) (bad' : Bool) (left' : Int), (∀ n ∈ l, InI n) ∧ l.length ≤ 1000 ∧ y = .sl (l.map eNo) l.isEmpty .no ∧ Rd G' br nl rest' bad' left' ∧ KB br G G' ∧ rest'.length ≤ rest.length ∧
    ∀ (z : List Int) (r : List UInt8), rest = encNs z ++ r → (∀ n ∈ z, InI n ∧ 1 ≤ n) → z.length ≤ 1000 → bad = false → l = z ∧ rest' = r ∧ bad' = false
/-- What is known behind a store into an own variable. -/
theorem st_facts {H1 H2 : Heap} {b : Nat} {x y : AObj} (h : hset H1 b x = H2) (hb : hget H1 b = some y) (hy : ∀ e c, y ≠ .top e c) :
    hget H2 b = some x ∧ (∀ k o, ¬ k = b → hget H1 k = some o → hget H2 k = some o) ∧ (∀ br G, hget G b = none → KB br G H1 → KB br G H2) ∧ (∀ G n t, Rm G H1 n t → Rm G H2 n t) ∧ (∀ G, hget G b = none → Sub G H1 → Sub G H2) := by
  subst h
  exact ⟨hget_hset_self hb, fun k o hn h => hset_keep h hn, fun br G h hk => hk.fresh h _, fun G n t hr => hr.hset hb hy, fun G h hs => sub_hset_fresh h hs⟩
/-- A parcel that is being read. -/
abbrev pcC (ref : Int) (sv : Sv) (bx : V) (tk : Int) (wa li : V) : List V := [.int .i64 ref, .str sv.1, .sl (sv.2.1.1.map eVal) sv.2.1.2 .no, .sl (sv.2.2.1.map eRcv) sv.2.2.2 .no, bx, .int .i64 tk, wa, li]
abbrev pcZ : List V := [.int .i64 0, .str [], .sl [] true .full, .sl [] true .full, .sl [] true .full, .int .i64 0, .sl [] true .full, .sl [] true .full]
end Go.Proofs.YtlgfffngojlffaaGreat

/- Snapshots: what is wrong with one. No conditions but sizes. -/
set_option linter.unusedSimpArgs false
set_option linter.unusedVariables false
namespace Go.Proofs.YtlgfffngojlffaaGreat
open Go.Proofs.YtlgfffngojlffaaGreatV
set_option maxHeartbeats 400000
set_option maxRecDepth 100000
def ePcl (x : Pcl) : List V := cPcl x
theorem wid_ePcl (xs : List Pcl) : wid 8 (xs.map ePcl) := wid_map (g := ePcl) (fun _ => rfl) _
/-- A way: from, to, letters. -/
abbrev Wyt := Int × Int × (List Lt × Bool)
abbrev cWyt (x : Wyt) : List V := [.int .i64 x.1, .int .i64 x.2.1, .sl (x.2.2.1.map eLt) x.2.2.2 .no]
def eWyt (x : Wyt) : List V := cWyt x
theorem wid_eWyt (xs : List Wyt) : wid 3 (xs.map eWyt) := wid_map (g := eWyt) (fun _ => rfl) _
abbrev Snp := Int × (List Pcl × Bool) × (List Wyt × Bool)
abbrev cSnp (x : Snp) : List V := [.int .i64 x.1, .sl (x.2.1.1.map ePcl) x.2.1.2 .no, .sl (x.2.2.1.map eWyt) x.2.2.2 .no]
def OkWyt (w : Wyt) : Prop := (IntKind.i64.min ≤ w.1 ∧ w.1 ≤ IntKind.i64.max) ∧ (IntKind.i64.min ≤ w.2.1 ∧ w.2.1 ≤ IntKind.i64.max) ∧ w.2.2.1.length ≤ 4194304 ∧ ∀ l ∈ w.2.2.1, OkLt l
def OkSnp (x : Snp) : Prop := (IntKind.i64.min ≤ x.1 ∧ x.1 ≤ IntKind.i64.max) ∧ x.2.1.1.length ≤ 4194304 ∧ (∀ p ∈ x.2.1.1, OkPcl p) ∧ x.2.2.1.length ≤ 4194304 ∧ ∀ w ∈ x.2.2.1, OkWyt w
/-- What is told first, one behind the other. -/
def scanF {A : Type} (g : Option A → A → Int) : Option A → List A → Int
  | _, [] => 0
  | p, x :: l => if g p x = 0 then scanF g (some x) l else g p x
def pAt {A : Type} (p : Option A) (l : List A) (i : Nat) : Option A := if i = 0 then p else l[i - 1]?
theorem pAt_succ {A : Type} (p : Option A) (x : A) (l : List A) (i : Nat) : pAt p (x :: l) (i + 1) = pAt (some x) l i := by
  unfold pAt
  rw [if_neg (by omega)]
  cases i with
  | zero => rfl
  | succ i => rw [if_neg (by omega)]; rfl
theorem scan_next {A : Type} {g : Option A → A → Int} : ∀ {l : List A} {p : Option A} {i : Nat} (h : i < l.length), scanF g p (l.take i) = 0 → g (pAt p l i) l[i] = 0 → scanF g p (l.take (i + 1)) = 0
  | x :: l, p, 0, _, _, h2 => by
    simp only [List.take_succ_cons, List.take_zero, scanF]
    rw [if_pos (by simpa [pAt] using h2)]
  | x :: l, p, i + 1, h, h1, h2 => by
    simp only [List.take_succ_cons, scanF] at h1 ⊢
    rw [pAt_succ] at h2
    by_cases e : g p x = 0
    · rw [if_pos e] at h1 ⊢
      exact scan_next (by simpa using h) h1 h2
    · rw [if_neg e] at h1; exact absurd h1 e
theorem scan_hit {A : Type} {g : Option A → A → Int} : ∀ {l : List A} {p : Option A} {i : Nat} (h : i < l.length), scanF g p (l.take i) = 0 → g (pAt p l i) l[i] ≠ 0 → scanF g p l = g (pAt p l i) l[i]
  | x :: l, p, 0, _, _, h2 => by
    rw [scanF, if_neg (by simpa [pAt] using h2)]; rfl
  | x :: l, p, i + 1, h, h1, h2 => by
    simp only [List.take_succ_cons, scanF] at h1
    rw [pAt_succ] at h2 ⊢
    by_cases e : g p x = 0
    · rw [if_pos e] at h1
      rw [scanF, if_pos e]
      exact scan_hit (by simpa using h) h1 h2
    · rw [if_neg e] at h1; exact absurd h1 e
def pclF (p : Option Pcl) (x : Pcl) : Int := if checkP x ≠ 0 then checkP x else match p with
  | none => 0
  | some q => if x.1 ≤ q.1 then 21 else 0
def wyB (p : Option Wyt) (w : Wyt) : Bool := match p with | none => false | some q => decide (w.1 < q.1) || (decide (q.1 = w.1) && decide (w.2.1 ≤ q.2.1))
def wyF (p : Option Wyt) (w : Wyt) : Int :=
  if w.1 < 1 ∨ 8 < w.1 ∨ w.2.1 < 1 ∨ 8 < w.2.1 ∨ w.1 = w.2.1 then 1
  else if 100 < w.2.2.1.length then 2
  else if wyB p w = true then 21
  else firstF checkL w.2.2.1
theorem getD_orP (xs : List Pcl) (n : Nat) : (xs.map ePcl).getD n [] = [] ∨ ∃ d, (xs.map ePcl).getD n [] = ePcl d := by
  by_cases h : n < xs.length
  · exact .inr ⟨_, getD_map h⟩
  · exact .inl (by rw [List.getD_eq_getElem?_getD, List.getElem?_eq_none (by simpa using h)]; rfl)
/-- What is wrong with a snapshot. -/
def checkN (x : Snp) : Int :=
  if 100 < x.2.1.1.length ∨ 60 < x.2.2.1.length then 2
  else if x.1 < 0 then 1
  else if scanF pclF none x.2.1.1 ≠ 0 then scanF pclF none x.2.1.1
  else scanF wyF none x.2.2.1
theorem q_way (w : Wyt) (ahead : List Wyt) (nl : Bool) (t : Tag) (ho : OkWyt w) (hl : ahead.length ≤ 4194304) : Quiet Tryz.prog 72 [.agg (cWyt w), .sl (ahead.map eWyt) nl t] (.int .i64 (wyF ahead.getLast? w)) := by
  obtain ⟨o1, o2, o3, o4⟩ := ho
  refine Quiet.weak fun G => ?_
  refine acall_body (rs := [.tmp 4]) Tryz.func72 rfl rfl Tryz.ntmps72 (by kernel_rfl) (Nat.le_of_ble_eq_true rfl) ?_
  refine aw_sr rfl ?_  -- r0 @store.go:35
  simp only [go_sem, reduceIte, Nat.reduceEqDiff, Nat.reduceAdd, Nat.reduceMul, Nat.reduceSub, Nat.reduceLeDiff, Nat.reduceLT, reduceCtorEq]
  intro b2 hb2
  refine aw_box1 hb2 fun B1 hs1 h2 => ?_
  have hsB := hs1
  refine aw_seq fun K1 hK1 => ?_
  refine aw_sr rfl ?_  -- r1 @store.go:36
  simp only [go_sem, reduceIte, Nat.reduceEqDiff, Nat.reduceAdd, Nat.reduceMul, Nat.reduceSub, Nat.reduceLeDiff, Nat.reduceLT, reduceCtorEq, h2]
  refine aw_if rfl (fun h => ?_) (fun h => ?_)
  · refine aw_sr rfl ?_  -- r2 @store.go:37
    simp only [go_sem, reduceIte, Nat.reduceEqDiff, Nat.reduceAdd, Nat.reduceMul, Nat.reduceSub, Nat.reduceLeDiff, Nat.reduceLT, reduceCtorEq]
    refine aw_ret ⟨trivial, _, rfl, ?_, hsB⟩
    simp only [Bool.or_eq_true, decide_eq_true_eq] at h
    rw [wyF, if_pos (by omega)]
    exact Vle.refl _
  simp only [Bool.or_eq_false_iff, decide_eq_false_iff_not] at h
  have g1 : ¬ (w.1 < 1 ∨ 8 < w.1 ∨ w.2.1 < 1 ∨ 8 < w.2.1 ∨ w.1 = w.2.1) := by omega
  refine aw_skip (hK1 _ _ ?_)
  refine aw_seq fun K2 hK2 => ?_
  refine aw_sr rfl ?_  -- r3 @store.go:39
  simp only [go_sem, reduceIte, Nat.reduceEqDiff, Nat.reduceAdd, Nat.reduceMul, Nat.reduceSub, Nat.reduceLeDiff, Nat.reduceLT, reduceCtorEq, h2]
  refine aw_if rfl (fun h => ?_) (fun h => ?_)
  · refine aw_sr rfl ?_  -- r4 @store.go:40
    simp only [go_sem, reduceIte, Nat.reduceEqDiff, Nat.reduceAdd, Nat.reduceMul, Nat.reduceSub, Nat.reduceLeDiff, Nat.reduceLT, reduceCtorEq]
    refine aw_ret ⟨trivial, _, rfl, ?_, hsB⟩
    rw [decide_eq_true_eq] at h
    rw [wyF, if_neg g1, if_pos (by omega)]
    exact Vle.refl _
  rw [decide_eq_false_iff_not] at h
  have g2 : ¬ 100 < w.2.2.1.length := by omega
  refine aw_skip (hK2 _ _ ?_)
  refine aw_mid (fun f' G' => FSub [(2, .ptr b2 0)] f' ∧ G' = B1 ∧ wyB ahead.getLast? w = false) ?_ ?_
  · refine aw_sr rfl ?_  -- r5 @store.go:42
    simp only [go_sem, reduceIte, Nat.reduceEqDiff, Nat.reduceAdd, Nat.reduceMul, Nat.reduceSub, Nat.reduceLeDiff, Nat.reduceLT, reduceCtorEq]
    refine aw_srd [(0,true),(1,true),(2,true),(3,true),(4,true),(5,true),(6,true),(7,true),(8,true),(9,true),(10,true),(11,true),(12,true),(13,true),(14,true),(15,true),(16,true),(17,true),(18,true),(19,true),(20,true),(21,true),(22,true),(23,true),(24,true),(25,true),(26,true),(27,true),(28,true),(29,true),(30,true),(31,true),(32,true),(33,true),(34,true)] mixed rfl (by kernel_rfl) ?_
    rcases List.eq_nil_or_concat ahead with rfl | ⟨init, q, rfl⟩
    · have hz : decide ((0 : Int) < ((0 : Nat) : Int)) = false := rfl
      simp only [go_sem, reduceIte, Nat.reduceEqDiff, Nat.reduceAdd, Nat.reduceMul, Nat.reduceSub, Nat.reduceLeDiff, Nat.reduceLT, reduceCtorEq, h2, hz, List.getD_nil]
      repeat first | refine ⟨fun e => e.elim, ?_⟩ | refine ⟨rfl, ?_⟩
      refine aw_if (b := false) rfl (fun h => by cases h) (fun h => ?_)
      exact aw_skip ⟨rfl, rfl, rfl⟩
    · rw [List.concat_eq_append] at hl ⊢
      have hlen : (init ++ [q]).length = init.length + 1 := by simp
      rw [hlen] at hl
      have hlast : (init ++ [q]).getLast? = some q := by simp
      rw [hlast]
      have hw1 : IntKind.i64.wrap (((init.length + 1 : Nat) : Int) - 1) = ((init.length : Nat) : Int) := by rw [wrap64 (by omega) (by omega)]; omega
      have hgq : ((init ++ [q]).map eWyt).getD init.length [] = eWyt q := by
        rw [getD_map (by rw [hlen]; omega)]; simp
      have hpos : decide ((0 : Int) < ((init.length + 1 : Nat) : Int)) = true := by rw [decide_eq_true_eq]; omega
      simp only [go_sem, reduceIte, Nat.reduceEqDiff, Nat.reduceAdd, Nat.reduceMul, Nat.reduceSub, Nat.reduceLeDiff, Nat.reduceLT, reduceCtorEq, h2, hlen, hw1, Int.toNat_natCast, hgq, eWyt, hpos]
      refine ⟨fun _ => ⟨by omega, by omega, wid_eWyt _⟩, fun _ => ⟨by omega, by omega, wid_eWyt _⟩, fun _ => ⟨by omega, by omega, wid_eWyt _⟩, ?_⟩
      refine aw_if rfl (fun h => ?_) (fun h => ?_)
      · refine aw_sr rfl ?_  -- r7
        simp only [go_sem, reduceIte, Nat.reduceEqDiff, Nat.reduceAdd, Nat.reduceMul, Nat.reduceSub, Nat.reduceLeDiff, Nat.reduceLT, reduceCtorEq]
        refine aw_ret ⟨trivial, _, rfl, ?_, hsB⟩
        rw [wyF, if_neg g1, if_neg g2, if_pos (show wyB (some q) w = true from h)]
        exact Vle.refl _
      exact aw_skip ⟨rfl, rfl, h⟩
  intro f' G' ⟨hf, hg, hwb⟩
  rw [hg]
  refine AW.of_fsub hf ?_
  have hW : wyF ahead.getLast? w = firstF checkL w.2.2.1 := by rw [wyF, if_neg g1, if_neg g2, if_neg (by rw [hwb]; decide)]
  refine aw_seq fun K4 hK4 => ?_
  refine aw_sr rfl ?_  -- r8 @store.go:45
  simp only [go_sem, reduceIte, Nat.reduceEqDiff, Nat.reduceAdd, Nat.reduceMul, Nat.reduceSub, Nat.reduceLeDiff, Nat.reduceLT, reduceCtorEq, h2]
  refine aw_range w.2.2.1.length (S := Unit) (fun i _ => [(76, .sl (w.2.2.1.map eLt) w.2.2.2 .no)]) (fun _ _ => B1) (fun i _ => firstF checkL (w.2.2.1.take i) = 0) () (by omega) ?_ (fun _ _ h => h) rfl rfl (fun _ _ => rfl) ?_ ?_ (by decide)
  · simp only [go_sem, reduceIte, Nat.reduceEqDiff, Nat.reduceAdd, Nat.reduceMul, Nat.reduceSub, Nat.reduceLeDiff, Nat.reduceLT, reduceCtorEq, Int.natCast_zero]
  · intro i _ hi he
    have hol := o4 _ (List.getElem_mem hi)
    have hnext := firstF_next hi he
    have hhit := firstF_hit hi he
    refine aw_sr rfl ?_  -- r10
    simp only [go_sem, reduceIte, Nat.reduceEqDiff, Nat.reduceAdd, Nat.reduceMul, Nat.reduceSub, Nat.reduceLeDiff, Nat.reduceLT, reduceCtorEq, getD_map hi, eLt]
    refine ⟨⟨by omega, by omega, wid_eLt _⟩, ?_⟩
    generalize w.2.2.1[i] = l at hol hnext hhit ⊢
    intro b7 hb7
    refine aw_box1 hb7 fun B2 hs2 h7 => ?_
    refine aw_sr rfl ?_  -- r11
    simp only [go_sem, reduceIte, Nat.reduceEqDiff, Nat.reduceAdd, Nat.reduceMul, Nat.reduceSub, Nat.reduceLeDiff, Nat.reduceLT, reduceCtorEq, h7]
    refine goA_q (q_CheckLetter l hol.2.2.2.2.2 hol.2.2.2.2.1) ?_
    simp only [go_sem, reduceIte, Nat.reduceEqDiff, Nat.reduceAdd, Nat.reduceMul, Nat.reduceSub, Nat.reduceLeDiff, Nat.reduceLT, reduceCtorEq, h7]
    refine aw_sr rfl ?_  -- r12
    simp only [go_sem, reduceIte, Nat.reduceEqDiff, Nat.reduceAdd, Nat.reduceMul, Nat.reduceSub, Nat.reduceLeDiff, Nat.reduceLT, reduceCtorEq]
    refine aw_if rfl (fun h => ?_) (fun h => ?_)
    · refine aw_sr rfl ?_  -- r13
      simp only [go_sem, reduceIte, Nat.reduceEqDiff, Nat.reduceAdd, Nat.reduceMul, Nat.reduceSub, Nat.reduceLeDiff, Nat.reduceLT, reduceCtorEq]
      refine aw_ret ⟨trivial, _, rfl, ?_, sub_trans hsB hs2⟩
      have h : ¬ checkL l = 0 := by simpa using h
      rw [hW, hhit h]
      exact Vle.refl _
    refine aw_skip ⟨(), hnext (by simpa using h), ?_, hs2⟩
    simp only [go_sem, reduceIte, Nat.reduceEqDiff, Nat.reduceAdd, Nat.reduceMul, Nat.reduceSub, Nat.reduceLeDiff, Nat.reduceLT, reduceCtorEq]
  intro _ he
  rw [List.take_length] at he
  refine hK4 _ _ ?_
  refine aw_sr rfl ?_  -- r15
  simp only [go_sem, reduceIte, Nat.reduceEqDiff, Nat.reduceAdd, Nat.reduceMul, Nat.reduceSub, Nat.reduceLeDiff, Nat.reduceLT, reduceCtorEq]
  refine aw_ret ⟨trivial, _, rfl, ?_, hsB⟩
  rw [hW, he]
  exact Vle.refl _
theorem pAt_take {A : Type} {l : List A} {i : Nat} (hi : i < l.length) : (l.take i).getLast? = pAt none l i := by
  unfold pAt
  cases i with
  | zero => rfl
  | succ i =>
    rw [if_neg (by omega), List.getLast?_eq_getElem?, List.length_take, Nat.min_eq_left (by omega), List.getElem?_take_of_lt (by omega)]
theorem q_SCheck (x : Snp) (ho : OkSnp x) : Quiet Tryz.prog 41 [.agg (cSnp x)] (.int .i64 (checkN x)) := by
  obtain ⟨o1, o2, o3, o4, o5⟩ := ho
  refine Quiet.weak fun G => ?_
  refine acall_body (rs := [.tmp 2]) Tryz.func41 rfl rfl Tryz.ntmps41 (by kernel_rfl) (Nat.le_of_ble_eq_true rfl) ?_
  refine aw_sr rfl ?_  -- r0 @store.go:54
  simp only [go_sem, reduceIte, Nat.reduceEqDiff, Nat.reduceAdd, Nat.reduceMul, Nat.reduceSub, Nat.reduceLeDiff, Nat.reduceLT, reduceCtorEq]
  intro b1 hb1
  refine aw_box1 hb1 fun B1 hs1 h1 => ?_
  have hsB := hs1
  refine aw_seq fun K5 hK5 => ?_
  refine aw_sr rfl ?_  -- r1 @store.go:55
  simp only [go_sem, reduceIte, Nat.reduceEqDiff, Nat.reduceAdd, Nat.reduceMul, Nat.reduceSub, Nat.reduceLeDiff, Nat.reduceLT, reduceCtorEq, h1]
  refine aw_if rfl (fun h => ?_) (fun h => ?_)
  · refine aw_sr rfl ?_  -- r2 @store.go:56
    simp only [go_sem, reduceIte, Nat.reduceEqDiff, Nat.reduceAdd, Nat.reduceMul, Nat.reduceSub, Nat.reduceLeDiff, Nat.reduceLT, reduceCtorEq]
    refine aw_ret ⟨trivial, _, rfl, ?_, hsB⟩
    simp only [Bool.or_eq_true, decide_eq_true_eq] at h
    rw [checkN, if_pos (by omega)]
    exact Vle.refl _
  simp only [Bool.or_eq_false_iff, decide_eq_false_iff_not] at h
  have g1 : ¬ (100 < x.2.1.1.length ∨ 60 < x.2.2.1.length) := by omega
  refine aw_skip (hK5 _ _ ?_)
  refine aw_seq fun K6 hK6 => ?_
  refine aw_sr rfl ?_  -- r3 @store.go:58
  simp only [go_sem, reduceIte, Nat.reduceEqDiff, Nat.reduceAdd, Nat.reduceMul, Nat.reduceSub, Nat.reduceLeDiff, Nat.reduceLT, reduceCtorEq, h1]
  refine aw_if rfl (fun h => ?_) (fun h => ?_)
  · refine aw_sr rfl ?_  -- r4 @store.go:59
    simp only [go_sem, reduceIte, Nat.reduceEqDiff, Nat.reduceAdd, Nat.reduceMul, Nat.reduceSub, Nat.reduceLeDiff, Nat.reduceLT, reduceCtorEq]
    refine aw_ret ⟨trivial, _, rfl, ?_, hsB⟩
    rw [decide_eq_true_eq] at h
    rw [checkN, if_neg g1, if_pos h]
    exact Vle.refl _
  rw [decide_eq_false_iff_not] at h
  have g2 := h
  refine aw_skip (hK6 _ _ ?_)
  refine aw_seq fun K7 hK7 => ?_
  refine aw_sr rfl ?_  -- r5 @store.go:61
  simp only [go_sem, reduceIte, Nat.reduceEqDiff, Nat.reduceAdd, Nat.reduceMul, Nat.reduceSub, Nat.reduceLeDiff, Nat.reduceLT, reduceCtorEq, h1]
  refine aw_range x.2.1.1.length (S := Unit) (fun i _ => [(1, .ptr b1 0), (23, .sl (x.2.1.1.map ePcl) x.2.1.2 .no)]) (fun _ _ => B1) (fun i _ => scanF pclF none (x.2.1.1.take i) = 0) () (by omega) ?_ (fun _ _ h => h) rfl rfl (fun _ _ => rfl) ?_ ?_ (by decide)
  · simp only [go_sem, reduceIte, Nat.reduceEqDiff, Nat.reduceAdd, Nat.reduceMul, Nat.reduceSub, Nat.reduceLeDiff, Nat.reduceLT, reduceCtorEq, Int.natCast_zero]
  · intro i _ hi he
    have hop := o3 _ (List.getElem_mem hi)
    have hnext := scan_next hi he
    have hhit := scan_hit hi he
    have hbad : ∀ {e : Int}, pclF (pAt none x.2.1.1 i) x.2.1.1[i] = e → e ≠ 0 → Vle (oneOf [V.int .i64 e]) (.int .i64 (checkN x)) := by
      intro e h0 h
      have h1 : pclF (pAt none x.2.1.1 i) x.2.1.1[i] ≠ 0 := by rw [h0]; exact h
      rw [checkN, if_neg g1, if_neg g2, hhit h1, if_pos h1, h0]
      exact Vle.refl _
    have hgi := getD_map (e := ePcl) hi
    have hprev : 0 < i → ∃ q : Pcl, pAt none x.2.1.1 i = some q ∧ (x.2.1.1.map ePcl).getD (i - 1) [] = ePcl q := fun hp => ⟨x.2.1.1[i - 1], by unfold pAt; rw [if_neg (by omega), List.getElem?_eq_getElem (by omega)], getD_map (by omega)⟩
    refine aw_sr rfl ?_  -- r7 @store.go:61
    simp only [go_sem, reduceIte, Nat.reduceEqDiff, Nat.reduceAdd, Nat.reduceMul, Nat.reduceSub, Nat.reduceLeDiff, Nat.reduceLT, reduceCtorEq, hgi, ePcl]
    refine ⟨⟨by omega, by omega, wid_ePcl _⟩, ?_⟩
    generalize x.2.1.1[i] = p at hop hnext hhit hbad ⊢
    intro b4 hb4
    refine aw_box1 hb4 fun B2 hs2 h4 => ?_
    have h14 := hs2 _ _ h1
    have hsC := sub_trans hsB hs2
    refine aw_seq fun K8 hK8 => ?_
    refine aw_sr rfl ?_  -- r8 @store.go:62
    simp only [go_sem, reduceIte, Nat.reduceEqDiff, Nat.reduceAdd, Nat.reduceMul, Nat.reduceSub, Nat.reduceLeDiff, Nat.reduceLT, reduceCtorEq, h4]
    refine goA_q (q_CheckParcel p hop) ?_
    simp only [go_sem, reduceIte, Nat.reduceEqDiff, Nat.reduceAdd, Nat.reduceMul, Nat.reduceSub, Nat.reduceLeDiff, Nat.reduceLT, reduceCtorEq, h4]
    refine aw_sr rfl ?_  -- r9 @store.go:62
    simp only [go_sem, reduceIte, Nat.reduceEqDiff, Nat.reduceAdd, Nat.reduceMul, Nat.reduceSub, Nat.reduceLeDiff, Nat.reduceLT, reduceCtorEq]
    refine aw_if rfl (fun h => ?_) (fun h => ?_)
    · refine aw_sr rfl ?_  -- r10 @store.go:63
      simp only [go_sem, reduceIte, Nat.reduceEqDiff, Nat.reduceAdd, Nat.reduceMul, Nat.reduceSub, Nat.reduceLeDiff, Nat.reduceLT, reduceCtorEq]
      have h : checkP p ≠ 0 := by simpa using h
      exact aw_ret ⟨trivial, _, rfl, hbad (by unfold pclF; rw [if_pos h]) h, hsC⟩
    have hcp : ¬ checkP p ≠ 0 := by simpa using h
    refine aw_skip (hK8 _ _ ?_)
    refine aw_srd [(0,true),(1,true),(2,true),(3,true),(4,true),(5,true),(6,true),(7,true),(8,true),(9,true),(10,true),(11,true),(12,true),(13,true)] mixed rfl (by kernel_rfl) ?_  -- r11 @store.go:65
    cases Nat.eq_zero_or_pos i with
    | inl hi0 =>
      subst hi0
      have hz : decide ((0 : Int) < ((0 : Nat) : Int)) = false := rfl
      rcases getD_orP x.2.1.1 (IntKind.i64.wrap (((0 : Nat) : Int) - 1)).toNat with hg | ⟨d, hg⟩
      all_goals
        simp only [go_sem, reduceIte, Nat.reduceEqDiff, Nat.reduceAdd, Nat.reduceMul, Nat.reduceSub, Nat.reduceLeDiff, Nat.reduceLT, reduceCtorEq, h14, h4, hz, hg, ePcl]
        repeat first | refine ⟨fun e => e.elim, ?_⟩ | refine ⟨rfl, ?_⟩
        refine aw_if (b := false) rfl (fun h => by cases h) (fun h => ?_)
        refine aw_skip ⟨(), hnext (by unfold pclF; rw [if_neg hcp]; rfl), ?_, hs2⟩
        simp only [go_sem, reduceIte, Nat.reduceEqDiff, Nat.reduceAdd, Nat.reduceMul, Nat.reduceSub, Nat.reduceLeDiff, Nat.reduceLT, reduceCtorEq]
    | inr hi0 =>
      obtain ⟨q, hq1, hq2⟩ := hprev hi0
      have hw1 : IntKind.i64.wrap ((i : Int) - 1) = ((i - 1 : Nat) : Int) := by rw [wrap64 (by omega) (by omega)]; omega
      have hpos : decide ((0 : Int) < (i : Int)) = true := by rw [decide_eq_true_eq]; omega
      simp only [go_sem, reduceIte, Nat.reduceEqDiff, Nat.reduceAdd, Nat.reduceMul, Nat.reduceSub, Nat.reduceLeDiff, Nat.reduceLT, reduceCtorEq, h14, h4, hpos, hw1, Int.toNat_natCast, hq2, ePcl]
      refine ⟨fun _ => ⟨by omega, by omega, wid_ePcl _⟩, ?_⟩
      have hval : pclF (pAt none x.2.1.1 i) p = if p.1 ≤ q.1 then 21 else 0 := by rw [hq1]; unfold pclF; rw [if_neg hcp]
      refine aw_if rfl (fun h => ?_) (fun h => ?_)
      · refine aw_sr rfl ?_  -- r12 @store.go:66
        simp only [go_sem, reduceIte, Nat.reduceEqDiff, Nat.reduceAdd, Nat.reduceMul, Nat.reduceSub, Nat.reduceLeDiff, Nat.reduceLT, reduceCtorEq]
        rw [decide_eq_true_eq] at h
        exact aw_ret ⟨trivial, _, rfl, hbad (by rw [hval, if_pos h]) (by decide), hsC⟩
      rw [decide_eq_false_iff_not] at h
      refine aw_skip ⟨(), hnext (by rw [hval, if_neg h]), ?_, hs2⟩
      simp only [go_sem, reduceIte, Nat.reduceEqDiff, Nat.reduceAdd, Nat.reduceMul, Nat.reduceSub, Nat.reduceLeDiff, Nat.reduceLT, reduceCtorEq]
  intro _ he
  rw [List.take_length] at he
  have g3 : ¬ scanF pclF none x.2.1.1 ≠ 0 := fun e => e he
  have hN : checkN x = scanF wyF none x.2.2.1 := by rw [checkN, if_neg g1, if_neg g2, if_neg g3]
  refine hK7 _ _ ?_
  refine aw_seq fun K9 hK9 => ?_
  refine aw_sr rfl ?_  -- r14 @store.go:69
  simp only [go_sem, reduceIte, Nat.reduceEqDiff, Nat.reduceAdd, Nat.reduceMul, Nat.reduceSub, Nat.reduceLeDiff, Nat.reduceLT, reduceCtorEq, h1]
  refine aw_range x.2.2.1.length (S := Unit) (fun i _ => [(1, .ptr b1 0), (51, .sl (x.2.2.1.map eWyt) x.2.2.2 .no)]) (fun _ _ => B1) (fun i _ => scanF wyF none (x.2.2.1.take i) = 0) () (by omega) ?_ (fun _ _ h => h) rfl rfl (fun _ _ => rfl) ?_ ?_ (by decide)
  · simp only [go_sem, reduceIte, Nat.reduceEqDiff, Nat.reduceAdd, Nat.reduceMul, Nat.reduceSub, Nat.reduceLeDiff, Nat.reduceLT, reduceCtorEq, Int.natCast_zero]
  · intro i _ hi he
    have hop := o5 _ (List.getElem_mem hi)
    have hnext := scan_next hi he
    have hhit := scan_hit hi he
    have hgi := getD_map (e := eWyt) hi
    have htk : (x.2.2.1.map eWyt).take i = (x.2.2.1.take i).map eWyt := by rw [List.map_take]
    have hpa := pAt_take hi
    refine aw_sr rfl ?_  -- r16 @store.go:69
    simp only [go_sem, reduceIte, Nat.reduceEqDiff, Nat.reduceAdd, Nat.reduceMul, Nat.reduceSub, Nat.reduceLeDiff, Nat.reduceLT, reduceCtorEq, hgi, eWyt]
    refine ⟨⟨by omega, by omega, wid_eWyt _⟩, ?_⟩
    generalize x.2.2.1[i] = w at hop hnext hhit ⊢
    intro b7 hb7
    refine aw_box1 hb7 fun B2 hs2 h7 => ?_
    have h17 := hs2 _ _ h1
    have hsC := sub_trans hsB hs2
    refine aw_srd [(0,true),(1,true),(2,true),(3,true),(4,true),(5,true),(6,true)] mixed rfl (by kernel_rfl) ?_  -- r17 @store.go:70
    simp only [go_sem, reduceIte, Nat.reduceEqDiff, Nat.reduceAdd, Nat.reduceMul, Nat.reduceSub, Nat.reduceLeDiff, Nat.reduceLT, reduceCtorEq, h17, h7, Int.toNat_natCast, htk]
    refine ⟨⟨⟨by omega, by omega⟩, wid_eWyt _⟩, ?_⟩
    refine goQ_by (q_way w (x.2.2.1.take i) _ _ hop (by rw [List.length_take]; omega)) ?_
    rw [hpa]
    simp only [go_sem, reduceIte, Nat.reduceEqDiff, Nat.reduceAdd, Nat.reduceMul, Nat.reduceSub, Nat.reduceLeDiff, Nat.reduceLT, reduceCtorEq]
    refine aw_sr rfl ?_  -- r18 @store.go:70
    simp only [go_sem, reduceIte, Nat.reduceEqDiff, Nat.reduceAdd, Nat.reduceMul, Nat.reduceSub, Nat.reduceLeDiff, Nat.reduceLT, reduceCtorEq]
    refine aw_if rfl (fun h => ?_) (fun h => ?_)
    · refine aw_sr rfl ?_  -- r19 @store.go:71
      simp only [go_sem, reduceIte, Nat.reduceEqDiff, Nat.reduceAdd, Nat.reduceMul, Nat.reduceSub, Nat.reduceLeDiff, Nat.reduceLT, reduceCtorEq]
      refine aw_ret ⟨trivial, _, rfl, ?_, hsC⟩
      have h : wyF (pAt none x.2.2.1 i) w ≠ 0 := by simpa using h
      rw [hN, hhit h]
      exact Vle.refl _
    refine aw_skip ⟨(), hnext (by simpa using h), ?_, hs2⟩
    simp only [go_sem, reduceIte, Nat.reduceEqDiff, Nat.reduceAdd, Nat.reduceMul, Nat.reduceSub, Nat.reduceLeDiff, Nat.reduceLT, reduceCtorEq]
  intro _ he
  rw [List.take_length] at he
  refine hK9 _ _ ?_
  refine aw_sr rfl ?_  -- r21 @store.go:74
  simp only [go_sem, reduceIte, Nat.reduceEqDiff, Nat.reduceAdd, Nat.reduceMul, Nat.reduceSub, Nat.reduceLeDiff, Nat.reduceLT, reduceCtorEq]
  refine aw_ret ⟨trivial, _, rfl, ?_, hsB⟩
  rw [hN, he]
  exact Vle.refl _
end Go.Proofs.YtlgfffngojlffaaGreat
