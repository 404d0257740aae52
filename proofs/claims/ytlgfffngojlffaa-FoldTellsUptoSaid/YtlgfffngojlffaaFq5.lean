/- Part 5 of a proof laid in parts; each part's own comment says what it proves and under which conditions. -/
import Derived.Test.YtlgfffngojlffaaFq4
import Derived.Test.YtlgfffngojlffaaFq3
import Derived.Test.YtlgfffngojlffaaRows
import Derived.WalkKit
import Derived.ProofKit
import Derived.OpenShut
import Derived.JoinedCond
/- Folding, the reference's. No conditions but sizes. -/
set_option linter.unusedSimpArgs false
set_option linter.unusedVariables false
namespace Go.Proofs.Ytlgfffngojlffaa
open Go.Proofs.YtlgfffngojlffaaV
set_option maxHeartbeats 4000000
set_option maxRecDepth 100000
theorem q_Folded1 (e x : Ex) (hxe : x = prtF false e) (he : OkEx e) (hx : OkEx x) (hsz : x.sz ≤ bulk + 1) (hA : ∀ a ∈ e.args, Quiet Try.prog 47 [.agg (cEx a)] (.agg (cEx (fldF false a)))) (hM : ∀ m ∈ e.arms, Quiet Try.prog 47 [.agg (cEx m.body)] (.agg (cEx (fldF false m.body)))) :
    Quiet Try.prog 47 [.agg (cEx e)] (.agg (cEx (fold1 x))) := by
  have g3 : bulk = 1048576 := rfl
  have hl1 := he.len
  have hl2 := he.mlen
  refine Quiet.weak fun G => ?_
  refine acall_body (rs := [.cell 2 63]) Try.func47 rfl rfl Try.ntmps47 (by kernel_rfl) (Nat.le_of_ble_eq_true rfl) ?_
  refine aw_sr rfl ?_  -- r0 @low.go:475
  simp only [go_sem, reduceIte, Nat.reduceEqDiff, Nat.reduceAdd, Nat.reduceMul, Nat.reduceSub, Nat.reduceLeDiff, Nat.reduceLT, reduceCtorEq]
  intro b1 hb1
  intro b2 hb2
  refine aw_box2 hb1 hb2 fun B1 hs1 h1 h2 _ _ => ?_
  obtain ⟨_, hb2'⟩ := fresh_cons hb2
  refine aw_sr rfl ?_  -- r1 @low.go:476
  simp only [go_sem, reduceIte, Nat.reduceEqDiff, Nat.reduceAdd, Nat.reduceMul, Nat.reduceSub, Nat.reduceLeDiff, Nat.reduceLT, reduceCtorEq, h1]
  intro b3 hb3
  have hbG : hget G b3 = none := none_sub hs1 hb3
  have n13 : ¬ b1 = b3 := ne_fresh h1 hb3
  have n23 : ¬ b2 = b3 := ne_fresh h2 hb3
  refine aw_box1 hb3 fun B2 hs2 h3 => ?_
  replace h1 := hs2 _ _ h1
  replace h2 := hs2 _ _ h2
  have hsB := sub_trans hs1 hs2
  refine aw_sr rfl ?_  -- r2 @low.go:477
  simp only [go_sem, reduceIte, Nat.reduceEqDiff, Nat.reduceAdd, Nat.reduceMul, Nat.reduceSub, Nat.reduceLeDiff, Nat.reduceLT, reduceCtorEq, h3]
  generalize hH5 : hset B2 b3 _ = H5
  obtain ⟨m3, hk, hG, hR⟩ := set_facts hH5 h3
  replace h1 := hk _ _ h1 n13
  replace h2 := hk _ _ h2 n23
  have hsB5 := hG _ hbG hsB
  simp only [go_sem, reduceIte, Nat.reduceEqDiff, Nat.reduceAdd, Nat.reduceMul, Nat.reduceSub, Nat.reduceLeDiff, Nat.reduceLT, reduceCtorEq, m3]
  generalize hH6 : hset H5 b3 _ = H6
  obtain ⟨m3, hk, hG, hR⟩ := set_facts hH6 m3
  replace h1 := hk _ _ h1 n13
  replace h2 := hk _ _ h2 n23
  have hsB6 := hG _ hbG hsB5
  clear hH5 hH6 hk hG hR
  have d1 : ¬ hget H6 b1 = none := by rw [h1]; simp
  have d2 : ¬ hget H6 b2 = none := by rw [h2]; simp
  have d3 : ¬ hget H6 b3 = none := by rw [m3]; simp
  refine aw_seq fun K1 hK1 => ?_
  refine aw_sr rfl ?_  -- r3 @low.go:478
  simp only [go_sem, reduceIte, Nat.reduceEqDiff, Nat.reduceAdd, Nat.reduceMul, Nat.reduceSub, Nat.reduceLeDiff, Nat.reduceLT, reduceCtorEq, h1]
  refine aw_range e.args.length (S := V × Heap) (fun i _ => [(1, .ptr b1 0), (2, .ptr b2 0), (3, .ptr b3 0)]) (fun _ s => s.2)
    (fun i s => Buf H6 s.2 8 (((e.args.take i).map (fldF false)).map eEx) s.1 ∧ Dom H6 s.2 ∧ Sub G s.2 ∧ hget s.2 b1 = some (.vars (cEx e)) ∧ (∃ z, hget s.2 b2 = some (.vars z) ∧ z.length = 8) ∧ hget s.2 b3 = some (.vars [.int .i64 e.kind, .int .i64 e.num, .str e.text, .sl (e.names.1.map eNm) e.names.2 .no, .sl (e.types.1.map eTyp) e.types.2 .no, s.1, .sl [] true .full, .int .i64 e.pos])) (.sl [] true .full, H6) (by omega) ?_ (fun _ _ h => h) ⟨Buf.start _ _ _, Dom.refl _, hsB6, h1, ⟨_, h2, rfl⟩, m3⟩ rfl (fun _ _ => rfl) ?_ ?_ (by decide)
  · simp only [go_sem, reduceIte, Nat.reduceEqDiff, Nat.reduceAdd, Nat.reduceMul, Nat.reduceSub, Nat.reduceLeDiff, Nat.reduceLT, reduceCtorEq, Int.natCast_zero]
  · intro i ⟨X, H⟩ hi ⟨hB, hD, hs, j1, ⟨z, j2, hz⟩, j3⟩
    simp only at hB hD hs j1 j2 j3 ⊢
    have hm := List.getElem_mem hi
    have hq := hA _ hm
    have htk : e.args.take (i + 1) = e.args.take i ++ [e.args[i]] := List.take_succ_eq_append_getElem hi
    have hlen := buf_len (P := Try.prog) (t := 60) hB (by kernel_rfl)
    have hel : (((e.args.take i).map (fldF false)).map eEx).length = i := by rw [List.length_map, List.length_map, List.length_take]; omega
    rw [hel] at hlen
    refine aw_sr rfl ?_  -- r5 @low.go:478
    simp only [go_sem, reduceIte, Nat.reduceEqDiff, Nat.reduceAdd, Nat.reduceMul, Nat.reduceSub, Nat.reduceLeDiff, Nat.reduceLT, reduceCtorEq]
    refine aw_rgt [(0,true),(1,true),(2,true),(3,true),(4,true),(5,true),(6,true),(7,true),(8,true),(9,true),(10,false),(11,true),(12,false),(13,true),(14,false)]
      (.fork2 [(0,true),(1,true),(2,true),(3,true),(4,true),(5,true),(6,true),(7,true),(8,true),(9,true),(10,false),(11,true),(13,true)] 12 14 (.leaf [(14,false)]) (.leaf [(12,false)])) mixed rfl (by kernel_rfl) ?_  -- r6 @low.go:479
    simp only [go_sem, reduceIte, Nat.reduceEqDiff, Nat.reduceAdd, Nat.reduceMul, Nat.reduceSub, Nat.reduceLeDiff, Nat.reduceLT, reduceCtorEq, goTr, j1, j3, getD_map hi, eEx_eq, ↓hlen]
    refine ⟨⟨by omega, by omega, wid_ex _⟩, ?_⟩
    refine goQ_by hq ?_
    simp only [go_sem, reduceIte, Nat.reduceEqDiff, Nat.reduceAdd, Nat.reduceMul, Nat.reduceSub, Nat.reduceLeDiff, Nat.reduceLT, reduceCtorEq, goTr, j1, j3, ↓hlen]
    refine goP1_buf (k := 136) (y0 := [.int .i64 0, .int .i64 0, .str [], .sl [] true .full, .sl [] true .full, .sl [] true .full, .sl [] true .full, .int .i64 0]) (z := .agg [.int .i64 0, .int .i64 0, .str [], .sl [] true .full, .sl [] true .full, .sl [] true .full, .sl [] true .full, .int .i64 0]) hB hD (by simp only [go_sem, reduceIte, Nat.reduceEqDiff, Nat.reduceAdd, Nat.reduceMul, Nat.reduceSub, Nat.reduceLeDiff, Nat.reduceLT, reduceCtorEq, srcV]) (by simp only [go_sem, reduceIte, Nat.reduceEqDiff, Nat.reduceAdd, Nat.reduceMul, Nat.reduceSub, Nat.reduceLeDiff, Nat.reduceLT, reduceCtorEq]) (by simp only [go_sem, reduceIte, Nat.reduceEqDiff, Nat.reduceAdd, Nat.reduceMul, Nat.reduceSub, Nat.reduceLeDiff, Nat.reduceLT, reduceCtorEq]) ⟨rfl, rfl, by decide, rfl, rfl, by rw [hel]; omega, by rw [hel]; omega⟩ fun b c H' y1 hsH hg0 hlt hw hy1 hgb => ?_
    have nb3 : ¬ b3 = b := fun q => d3 (by rw [q]; exact hg0)
    have nb1 : ¬ b1 = b := fun q => d1 (by rw [q]; exact hg0)
    have nb2 : ¬ b2 = b := fun q => d2 (by rw [q]; exact hg0)
    have k1 := hsH _ _ j1
    have k2 := hsH _ _ j2
    have k3 := hsH _ _ j3
    rw [hel] at hlt hgb ⊢
    simp only [go_sem, reduceIte, Nat.reduceEqDiff, Nat.reduceAdd, Nat.reduceMul, Nat.reduceSub, Nat.reduceLeDiff, Nat.reduceLT, reduceCtorEq, goTr, hgb, k3, hget_hset_ne nb3, hget_hset_ne (show ¬ b = b3 from fun q => nb3 q.symm)]
    have hfl : ((((e.args.take i).map (fldF false)).map eEx).flatten ++ (y1 ++ pad (c - (i + 1)) 8)).length = i * 8 + 8 + (c - (i + 1)) * 8 := by
      rw [List.length_append, wid_flat hw, hel, List.length_append, hy1, pad_length]; omega
    have hGb : hget G b = none := sub_none hsB6 hg0
    have hfin : ∀ Hn, hget Hn b = some (.vars (setMany ((((e.args.take i).map (fldF false)).map eEx).flatten ++ (y1 ++ pad (c - (i + 1)) 8)) (i * 8) (cEx (fldF false e.args[i])))) →
        (∀ k o, ¬ k = b → ¬ k = b3 → hget H' k = some o → hget Hn k = some o) → (∀ G0, Dom G0 H' → Dom G0 Hn) →
        Buf H6 Hn 8 (((e.args.take (i + 1)).map (fldF false)).map eEx) (.ms b 0 (i + 1) c) ∧ Dom H6 Hn ∧ Sub G Hn ∧ hget Hn b1 = some (.vars (cEx e)) ∧ hget Hn b2 = some (.vars z) := by
      intro Hn f1 f3 f4
      have hB2 := Buf.put2 (G0 := H6) (H := Hn) hw (by rw [hel]; exact hlt) rfl hy1 (by rw [hel]; exact f1) hg0
      rw [hel] at hB2
      refine ⟨?_, f4 _ (hD.sub hsH), fun k o hk => f3 k o (fun q => by rw [q, hGb] at hk; cases hk) (fun q => by rw [q, hbG] at hk; cases hk) (hsH _ _ (hs _ _ hk)), f3 _ _ nb1 n13 k1, f3 _ _ nb2 n23 k2⟩
      rw [htk, List.map_append, List.map_append]
      simpa only [List.map_cons, List.map_nil, eEx_eq] using hB2
    refine ⟨⟨by omega, by omega⟩, ⟨by rw [hfl]; omega, ?_⟩, by rw [hfl]; omega, ?_⟩
    · obtain ⟨f1, f2, f3, f4⟩ := two_facts (x := .vars (setMany ((((e.args.take i).map (fldF false)).map eEx).flatten ++ (y1 ++ pad (c - (i + 1)) 8)) (i * 8) (cEx (fldF false e.args[i])))) (y := .vars [.int .i64 e.kind, .int .i64 e.num, .str e.text, .sl (e.names.1.map eNm) e.names.2 .no, .sl (e.types.1.map eTyp) e.types.2 .no, .ms b 0 (i + 1) c, .sl [] true .full, .int .i64 e.pos]) hgb k3 nb3
      obtain ⟨g1, g2, g3, g4, g5⟩ := hfin _ f1 f3 f4
      exact ⟨(_, _), ⟨g1, g2, g3, g4, ⟨_, g5, hz⟩, f2⟩, ⟨rfl, rfl, rfl, rfl, rfl⟩, sub_rfl⟩
    · obtain ⟨f1, f2, f3, f4⟩ := two_facts2 (x := .vars (setMany ((((e.args.take i).map (fldF false)).map eEx).flatten ++ (y1 ++ pad (c - (i + 1)) 8)) (i * 8) (cEx (fldF false e.args[i])))) (y := .vars [.int .i64 e.kind, .int .i64 e.num, .str e.text, .sl (e.names.1.map eNm) e.names.2 .no, .sl (e.types.1.map eTyp) e.types.2 .no, .ms b 0 (i + 1) c, .sl [] true .full, .int .i64 e.pos]) hgb k3 nb3
      obtain ⟨g1, g2, g3, g4, g5⟩ := hfin _ f1 f3 f4
      exact ⟨(_, _), ⟨g1, g2, g3, g4, ⟨_, g5, hz⟩, f2⟩, ⟨rfl, rfl, rfl, rfl, rfl⟩, sub_rfl⟩
  intro ⟨X, H⟩ ⟨hB, hD, hs, j1, ⟨z, j2, hz⟩, j3⟩
  simp only at hB hD hs j1 j2 j3 ⊢
  rw [List.take_length] at hB
  refine hK1 _ _ ?_
  refine AW.freeze (pre := [.int .i64 e.kind, .int .i64 e.num, .str e.text, .sl (e.names.1.map eNm) e.names.2 .no, .sl (e.types.1.map eTyp) e.types.2 .no]) (post := [.sl [] true .full, .int .i64 e.pos]) hB j3 d3 fun H7 hk7 m3 => ?_
  replace m3 : hget H7 b3 = some (.vars [.int .i64 e.kind, .int .i64 e.num, .str e.text, .sl (e.names.1.map eNm) e.names.2 .no, .sl (e.types.1.map eTyp) e.types.2 .no, .sl ((e.args.map (fldF false)).map eEx) ((e.args.map (fldF false)).map eEx).isEmpty .no, .sl [] true .full, .int .i64 e.pos]) := m3
  replace h1 := hk7 _ _ n13 d1 j1
  replace h2 := hk7 _ _ n23 d2 j2
  have hsG : Sub G H7 := fun k o hk => hk7 k o (fun q => by rw [q, hbG] at hk; cases hk) (fun q => by rw [hsB6 _ _ hk] at q; cases q) (hs _ _ hk)
  clear hB hD hs j1 j2 j3 hk7 hK1
  refine aw_seq fun K2 hK2 => ?_
  refine aw_sr rfl ?_  -- r8 @low.go:481
  simp only [go_sem, reduceIte, Nat.reduceEqDiff, Nat.reduceAdd, Nat.reduceMul, Nat.reduceSub, Nat.reduceLeDiff, Nat.reduceLT, reduceCtorEq, h1]
  have d6 : ¬ hget H7 b1 = none := by rw [h1]; simp
  have d7 : ¬ hget H7 b2 = none := by rw [h2]; simp
  have d8 : ¬ hget H7 b3 = none := by rw [m3]; simp
  have hie : ((e.args.map (fldF false)).map eEx).isEmpty = e.args.isEmpty := by cases e.args <;> rfl
  rw [hie] at m3
  refine aw_range e.arms.length (S := V × Heap) (fun i _ => [(1, .ptr b1 0), (2, .ptr b2 0), (3, .ptr b3 0)]) (fun _ s => s.2)
    (fun i s => Buf H7 s.2 12 (((e.arms.take i).map (fldA false)).map eArm) s.1 ∧ Dom H7 s.2 ∧ Sub G s.2 ∧ hget s.2 b1 = some (.vars (cEx e)) ∧ (∃ z, hget s.2 b2 = some (.vars z) ∧ z.length = 8) ∧ hget s.2 b3 = some (.vars [.int .i64 e.kind, .int .i64 e.num, .str e.text, .sl (e.names.1.map eNm) e.names.2 .no, .sl (e.types.1.map eTyp) e.types.2 .no, .sl ((e.args.map (fldF false)).map eEx) e.args.isEmpty .no, s.1, .int .i64 e.pos])) (.sl [] true .full, H7) (by omega) ?_ (fun _ _ h => h) ⟨Buf.start _ _ _, Dom.refl _, hsG, h1, ⟨_, h2, hz⟩, m3⟩ rfl (fun _ _ => rfl) ?_ ?_ (by decide)
  · simp only [go_sem, reduceIte, Nat.reduceEqDiff, Nat.reduceAdd, Nat.reduceMul, Nat.reduceSub, Nat.reduceLeDiff, Nat.reduceLT, reduceCtorEq, Int.natCast_zero]
  · clear h2 hz
    intro i ⟨X, H⟩ hi ⟨hB, hD, hs, j1, ⟨z, j2, hz⟩, j3⟩
    simp only at hB hD hs j1 j2 j3 ⊢
    have hm := List.getElem_mem hi
    have hq := hM _ hm
    have htk : e.arms.take (i + 1) = e.arms.take i ++ [e.arms[i]] := List.take_succ_eq_append_getElem hi
    have hlen := buf_len (P := Try.prog) (t := 61) hB (by kernel_rfl)
    have hel : (((e.arms.take i).map (fldA false)).map eArm).length = i := by rw [List.length_map, List.length_map, List.length_take]; omega
    rw [hel] at hlen
    have hfa := fldA_eq false e.arms[i]
    refine aw_sr rfl ?_  -- r10 @low.go:481
    simp only [go_sem, reduceIte, Nat.reduceEqDiff, Nat.reduceAdd, Nat.reduceMul, Nat.reduceSub, Nat.reduceLeDiff, Nat.reduceLT, reduceCtorEq]
    refine aw_rgt [(0,true),(1,true),(2,true),(3,true),(4,true),(5,true),(6,true),(7,true),(8,true),(9,true),(10,true),(11,true),(12,true),(13,true),(14,true),(15,true),(16,true),(17,true),(18,false),(19,true),(20,false),(21,true),(22,false)]
      (.fork2 [(0,true),(1,true),(2,true),(3,true),(4,true),(5,true),(6,true),(7,true),(8,true),(9,true),(10,true),(11,true),(12,true),(13,true),(14,true),(15,true),(16,true),(17,true),(18,false),(19,true),(21,true)] 20 22 (.leaf [(22,false)]) (.leaf [(20,false)])) mixed rfl (by kernel_rfl) ?_  -- r11 @low.go:482
    simp only [go_sem, reduceIte, Nat.reduceEqDiff, Nat.reduceAdd, Nat.reduceMul, Nat.reduceSub, Nat.reduceLeDiff, Nat.reduceLT, reduceCtorEq, goTr, j1, j3, getD_map hi, eArm_eq, ↓hlen]
    refine ⟨⟨by omega, by omega, wid_arm _⟩, ⟨by omega, by omega, wid_arm _⟩, ?_⟩
    refine goQ_by hq ?_
    simp only [go_sem, reduceIte, Nat.reduceEqDiff, Nat.reduceAdd, Nat.reduceMul, Nat.reduceSub, Nat.reduceLeDiff, Nat.reduceLT, reduceCtorEq, goTr, j1, j3, ↓hlen]
    refine goP1_buf (k := 192) (y0 := [.int .i64 0, .int .i64 0, .str [], .sl [] true .full, .int .i64 0, .int .i64 0, .str [], .sl [] true .full, .sl [] true .full, .sl [] true .full, .sl [] true .full, .int .i64 0]) (z := .agg [.int .i64 0, .int .i64 0, .str [], .sl [] true .full, .int .i64 0, .int .i64 0, .str [], .sl [] true .full, .sl [] true .full, .sl [] true .full, .sl [] true .full, .int .i64 0]) hB hD (by simp only [go_sem, reduceIte, Nat.reduceEqDiff, Nat.reduceAdd, Nat.reduceMul, Nat.reduceSub, Nat.reduceLeDiff, Nat.reduceLT, reduceCtorEq, srcV]) (by simp only [go_sem, reduceIte, Nat.reduceEqDiff, Nat.reduceAdd, Nat.reduceMul, Nat.reduceSub, Nat.reduceLeDiff, Nat.reduceLT, reduceCtorEq]) (by simp only [go_sem, reduceIte, Nat.reduceEqDiff, Nat.reduceAdd, Nat.reduceMul, Nat.reduceSub, Nat.reduceLeDiff, Nat.reduceLT, reduceCtorEq]) ⟨rfl, rfl, by decide, rfl, rfl, by rw [hel]; omega, by rw [hel]; omega⟩ fun b c H' y1 hsH hg0 hlt hw hy1 hgb => ?_
    have nb3 : ¬ b3 = b := fun q => d8 (by rw [q]; exact hg0)
    have nb1 : ¬ b1 = b := fun q => d6 (by rw [q]; exact hg0)
    have nb2 : ¬ b2 = b := fun q => d7 (by rw [q]; exact hg0)
    have k1 := hsH _ _ j1
    have k2 := hsH _ _ j2
    have k3 := hsH _ _ j3
    rw [hel] at hlt hgb ⊢
    simp only [go_sem, reduceIte, Nat.reduceEqDiff, Nat.reduceAdd, Nat.reduceMul, Nat.reduceSub, Nat.reduceLeDiff, Nat.reduceLT, reduceCtorEq, goTr, hgb, k3, hget_hset_ne nb3, hget_hset_ne (show ¬ b = b3 from fun q => nb3 q.symm)]
    have hfl : ((((e.arms.take i).map (fldA false)).map eArm).flatten ++ (y1 ++ pad (c - (i + 1)) 12)).length = i * 12 + 12 + (c - (i + 1)) * 12 := by
      rw [List.length_append, wid_flat hw, hel, List.length_append, hy1, pad_length]; omega
    have hGb : hget G b = none := sub_none hsG hg0
    have hfin : ∀ Hn, hget Hn b = some (.vars (setMany ((((e.arms.take i).map (fldA false)).map eArm).flatten ++ (y1 ++ pad (c - (i + 1)) 12)) (i * 12) (cPat e.arms[i].pat ++ cEx (fldF false e.arms[i].body)))) →
        (∀ k o, ¬ k = b → ¬ k = b3 → hget H' k = some o → hget Hn k = some o) → (∀ G0, Dom G0 H' → Dom G0 Hn) →
        Buf H7 Hn 12 (((e.arms.take (i + 1)).map (fldA false)).map eArm) (.ms b 0 (i + 1) c) ∧ Dom H7 Hn ∧ Sub G Hn ∧ hget Hn b1 = some (.vars (cEx e)) ∧ hget Hn b2 = some (.vars z) := by
      intro Hn f1 f3 f4
      have hB2 := Buf.put2 (G0 := H7) (H := Hn) hw (by rw [hel]; exact hlt) rfl hy1 (by rw [hel]; exact f1) hg0
      rw [hel] at hB2
      refine ⟨?_, f4 _ (hD.sub hsH), fun k o hk => f3 k o (fun q => by rw [q, hGb] at hk; cases hk) (fun q => by rw [q, hbG] at hk; cases hk) (hsH _ _ (hs _ _ hk)), f3 _ _ nb1 n13 k1, f3 _ _ nb2 n23 k2⟩
      rw [htk, List.map_append, List.map_append, List.map_cons, List.map_nil, List.map_cons, List.map_nil, hfa, arm_cells]
      exact hB2
    refine ⟨⟨by omega, by omega⟩, ⟨by rw [hfl]; omega, ?_⟩, by rw [hfl]; omega, ?_⟩
    · obtain ⟨f1, f2, f3, f4⟩ := two_facts (x := .vars (setMany ((((e.arms.take i).map (fldA false)).map eArm).flatten ++ (y1 ++ pad (c - (i + 1)) 12)) (i * 12) (cPat e.arms[i].pat ++ cEx (fldF false e.arms[i].body)))) (y := .vars [.int .i64 e.kind, .int .i64 e.num, .str e.text, .sl (e.names.1.map eNm) e.names.2 .no, .sl (e.types.1.map eTyp) e.types.2 .no, .sl ((e.args.map (fldF false)).map eEx) e.args.isEmpty .no, .ms b 0 (i + 1) c, .int .i64 e.pos]) hgb k3 nb3
      obtain ⟨g1, g2, g3, g4, g5⟩ := hfin _ f1 f3 f4
      exact ⟨(_, _), ⟨g1, g2, g3, g4, ⟨_, g5, hz⟩, f2⟩, ⟨rfl, rfl, rfl, rfl, rfl⟩, sub_rfl⟩
    · obtain ⟨f1, f2, f3, f4⟩ := two_facts2 (x := .vars (setMany ((((e.arms.take i).map (fldA false)).map eArm).flatten ++ (y1 ++ pad (c - (i + 1)) 12)) (i * 12) (cPat e.arms[i].pat ++ cEx (fldF false e.arms[i].body)))) (y := .vars [.int .i64 e.kind, .int .i64 e.num, .str e.text, .sl (e.names.1.map eNm) e.names.2 .no, .sl (e.types.1.map eTyp) e.types.2 .no, .sl ((e.args.map (fldF false)).map eEx) e.args.isEmpty .no, .ms b 0 (i + 1) c, .int .i64 e.pos]) hgb k3 nb3
      obtain ⟨g1, g2, g3, g4, g5⟩ := hfin _ f1 f3 f4
      exact ⟨(_, _), ⟨g1, g2, g3, g4, ⟨_, g5, hz⟩, f2⟩, ⟨rfl, rfl, rfl, rfl, rfl⟩, sub_rfl⟩
  clear h1 h2 m3 hz
  intro ⟨X, H⟩ ⟨hB, hD, hs, j1, ⟨z, j2, hz⟩, j3⟩
  simp only at hB hD hs j1 j2 j3 ⊢
  rw [List.take_length] at hB
  refine hK2 _ _ ?_
  refine AW.freeze (pre := [.int .i64 e.kind, .int .i64 e.num, .str e.text, .sl (e.names.1.map eNm) e.names.2 .no, .sl (e.types.1.map eTyp) e.types.2 .no, .sl ((e.args.map (fldF false)).map eEx) e.args.isEmpty .no]) (post := [.int .i64 e.pos]) hB j3 d8 fun H8 hk8 m3 => ?_
  have h1 := hk8 _ _ n13 d6 j1
  have h2 := hk8 _ _ n23 d7 j2
  have hsB := fun k o (hk : hget G k = some o) => hk8 k o (fun q => by rw [q, hbG] at hk; cases hk) (fun q => by rw [hsG _ _ hk] at q; cases q) (hs _ _ hk)
  have hia : ((e.arms.map (fldA false)).map eArm).isEmpty = e.arms.isEmpty := by cases e.arms <;> rfl
  rw [hia] at m3
  replace m3 : hget H8 b3 = some (.vars (cEx x)) := by rw [hxe]; exact m3
  have hk : x.kind = e.kind := by rw [hxe]; rfl
  have ht : x.text = e.text := by rw [hxe]; rfl
  obtain ⟨z0, z1, z2, z3, z4, z5, z6, z7, rfl⟩ : ∃ a b c d e f g h, z = [a, b, c, d, e, f, g, h] := by
    rcases z with _ | ⟨a, _ | ⟨b, _ | ⟨c, _ | ⟨d, _ | ⟨e, _ | ⟨f, _ | ⟨g, _ | ⟨h, _ | ⟨_, _⟩⟩⟩⟩⟩⟩⟩⟩⟩ <;> simp at hz
    exact ⟨_, _, _, _, _, _, _, _, rfl⟩
  clear hB hD hs j1 j2 j3 hk8 hK2 hA hM hxe hsB6 hsG d1 d2 d3 d6 d7 d8 hz
  have hl := hx.len
  generalize H8 = B2 at *
  refine aw_sr rfl ?_  -- r13
  simp only [go_sem, reduceIte, Nat.reduceEqDiff, Nat.reduceAdd, Nat.reduceMul, Nat.reduceSub, Nat.reduceLeDiff, Nat.reduceLT, reduceCtorEq]
  refine aw_sr rfl ?_  -- r14
  simp only [go_sem, reduceIte, Nat.reduceEqDiff, Nat.reduceAdd, Nat.reduceMul, Nat.reduceSub, Nat.reduceLeDiff, Nat.reduceLT, reduceCtorEq]
  refine aw_seq fun K3 hK3 => ?_
  by_cases k7 : x.kind = 7
  · have k7e : e.kind = 7 := hk ▸ k7
    have n8 : decide ((7 : Int) ≠ 8) = true := rfl
    have n8' : ¬ x.kind = 8 := by rw [k7]; decide
    have hout : g7 x = false → fold1 x = x := fun h => fold1_0 h (g8_off n8') (g9_off n8')
    have lt20 : decide ((2 : Int) < ((0 : Nat) : Int)) = false := rfl
    have lt21 : decide ((2 : Int) < ((0 + 1 : Nat) : Int)) = false := rfl
    have lt22 : decide ((2 : Int) < ((0 + 1 + 1 : Nat) : Int)) = false := rfl
    rcases hxa : x.args with _ | ⟨c, _ | ⟨y, _ | ⟨w, l⟩⟩⟩
    · refine aw_sr rfl ?_  -- r15
      simp only [go_sem, reduceIte, Nat.reduceEqDiff, Nat.reduceAdd, Nat.reduceMul, Nat.reduceSub, Nat.reduceLeDiff, Nat.reduceLT, reduceCtorEq, h1, m3, k7e, hxa, List.map_nil, lt20, true_imp_iff, false_imp_iff]
      repeat' first
        | (refine goG_no fun v => ?_
           simp only [go_sem, reduceIte, Nat.reduceEqDiff, Nat.reduceAdd, Nat.reduceMul, Nat.reduceSub, Nat.reduceLeDiff, Nat.reduceLT, reduceCtorEq, h1, m3, k7e, hxa, List.map_nil, lt20, true_imp_iff, false_imp_iff])
        | (refine goQg_no fun v => ?_
           simp only [go_sem, reduceIte, Nat.reduceEqDiff, Nat.reduceAdd, Nat.reduceMul, Nat.reduceSub, Nat.reduceLeDiff, Nat.reduceLT, reduceCtorEq, h1, m3, k7e, hxa, List.map_nil, lt20, true_imp_iff, false_imp_iff])
        | (refine goH_no fun v => ?_
           simp only [go_sem, reduceIte, Nat.reduceEqDiff, Nat.reduceAdd, Nat.reduceMul, Nat.reduceSub, Nat.reduceLeDiff, Nat.reduceLT, reduceCtorEq, h1, m3, k7e, hxa, List.map_nil, lt20, true_imp_iff, false_imp_iff])
      refine aw_if rfl (fun h => by simp at h) (fun h => ?_)
      refine aw_skip (hK3 _ _ ?_)
      refine aw_seq fun K4 hK4 => ?_
      refine aw_sr rfl ?_  -- r21
      simp only [go_sem, reduceIte, Nat.reduceEqDiff, Nat.reduceAdd, Nat.reduceMul, Nat.reduceSub, Nat.reduceLeDiff, Nat.reduceLT, reduceCtorEq, h1, m3, k7e, n8, true_imp_iff, false_imp_iff]
      repeat' first
        | (refine goG_no fun v => ?_
           simp only [go_sem, reduceIte, Nat.reduceEqDiff, Nat.reduceAdd, Nat.reduceMul, Nat.reduceSub, Nat.reduceLeDiff, Nat.reduceLT, reduceCtorEq, h1, m3, k7e, n8, true_imp_iff, false_imp_iff])
        | (refine goQg_no fun v => ?_
           simp only [go_sem, reduceIte, Nat.reduceEqDiff, Nat.reduceAdd, Nat.reduceMul, Nat.reduceSub, Nat.reduceLeDiff, Nat.reduceLT, reduceCtorEq, h1, m3, k7e, n8, true_imp_iff, false_imp_iff])
        | (refine goH_no fun v => ?_
           simp only [go_sem, reduceIte, Nat.reduceEqDiff, Nat.reduceAdd, Nat.reduceMul, Nat.reduceSub, Nat.reduceLeDiff, Nat.reduceLT, reduceCtorEq, h1, m3, k7e, n8, true_imp_iff, false_imp_iff])
      refine aw_if rfl (fun h => ?_) (fun h => by simp at h)
      refine aw_sr rfl ?_
      simp only [go_sem, reduceIte, Nat.reduceEqDiff, Nat.reduceAdd, Nat.reduceMul, Nat.reduceSub, Nat.reduceLeDiff, Nat.reduceLT, reduceCtorEq, m3, h2]
      refine aw_ret ⟨trivial, ?_⟩
      simp only [go_sem, reduceIte, Nat.reduceEqDiff, Nat.reduceAdd, Nat.reduceMul, Nat.reduceSub, Nat.reduceLeDiff, Nat.reduceLT, reduceCtorEq, resL, resOf, hget_hset_self h2]
      refine ⟨_, rfl, ?_, sub_hset_fresh hb2' hsB⟩
      rw [hout (by simp [g7, hxa])]; exact Vle.refl _
    · refine aw_sr rfl ?_  -- r15
      simp only [go_sem, reduceIte, Nat.reduceEqDiff, Nat.reduceAdd, Nat.reduceMul, Nat.reduceSub, Nat.reduceLeDiff, Nat.reduceLT, reduceCtorEq, h1, m3, k7e, hxa, List.map_cons, List.map_nil, lt21, true_imp_iff, false_imp_iff]
      repeat' first
        | (refine goG_no fun v => ?_
           simp only [go_sem, reduceIte, Nat.reduceEqDiff, Nat.reduceAdd, Nat.reduceMul, Nat.reduceSub, Nat.reduceLeDiff, Nat.reduceLT, reduceCtorEq, h1, m3, k7e, hxa, List.map_cons, List.map_nil, lt21, true_imp_iff, false_imp_iff])
        | (refine goQg_no fun v => ?_
           simp only [go_sem, reduceIte, Nat.reduceEqDiff, Nat.reduceAdd, Nat.reduceMul, Nat.reduceSub, Nat.reduceLeDiff, Nat.reduceLT, reduceCtorEq, h1, m3, k7e, hxa, List.map_cons, List.map_nil, lt21, true_imp_iff, false_imp_iff])
        | (refine goH_no fun v => ?_
           simp only [go_sem, reduceIte, Nat.reduceEqDiff, Nat.reduceAdd, Nat.reduceMul, Nat.reduceSub, Nat.reduceLeDiff, Nat.reduceLT, reduceCtorEq, h1, m3, k7e, hxa, List.map_cons, List.map_nil, lt21, true_imp_iff, false_imp_iff])
      refine aw_if rfl (fun h => by simp at h) (fun h => ?_)
      refine aw_skip (hK3 _ _ ?_)
      refine aw_seq fun K4 hK4 => ?_
      refine aw_sr rfl ?_  -- r21
      simp only [go_sem, reduceIte, Nat.reduceEqDiff, Nat.reduceAdd, Nat.reduceMul, Nat.reduceSub, Nat.reduceLeDiff, Nat.reduceLT, reduceCtorEq, h1, m3, k7e, n8, true_imp_iff, false_imp_iff]
      repeat' first
        | (refine goG_no fun v => ?_
           simp only [go_sem, reduceIte, Nat.reduceEqDiff, Nat.reduceAdd, Nat.reduceMul, Nat.reduceSub, Nat.reduceLeDiff, Nat.reduceLT, reduceCtorEq, h1, m3, k7e, n8, true_imp_iff, false_imp_iff])
        | (refine goQg_no fun v => ?_
           simp only [go_sem, reduceIte, Nat.reduceEqDiff, Nat.reduceAdd, Nat.reduceMul, Nat.reduceSub, Nat.reduceLeDiff, Nat.reduceLT, reduceCtorEq, h1, m3, k7e, n8, true_imp_iff, false_imp_iff])
        | (refine goH_no fun v => ?_
           simp only [go_sem, reduceIte, Nat.reduceEqDiff, Nat.reduceAdd, Nat.reduceMul, Nat.reduceSub, Nat.reduceLeDiff, Nat.reduceLT, reduceCtorEq, h1, m3, k7e, n8, true_imp_iff, false_imp_iff])
      refine aw_if rfl (fun h => ?_) (fun h => by simp at h)
      refine aw_sr rfl ?_
      simp only [go_sem, reduceIte, Nat.reduceEqDiff, Nat.reduceAdd, Nat.reduceMul, Nat.reduceSub, Nat.reduceLeDiff, Nat.reduceLT, reduceCtorEq, m3, h2]
      refine aw_ret ⟨trivial, ?_⟩
      simp only [go_sem, reduceIte, Nat.reduceEqDiff, Nat.reduceAdd, Nat.reduceMul, Nat.reduceSub, Nat.reduceLeDiff, Nat.reduceLT, reduceCtorEq, resL, resOf, hget_hset_self h2]
      refine ⟨_, rfl, ?_, sub_hset_fresh hb2' hsB⟩
      rw [hout (by simp [g7, hxa])]; exact Vle.refl _
    · refine aw_sr rfl ?_  -- r15
      simp only [go_sem, reduceIte, Nat.reduceEqDiff, Nat.reduceAdd, Nat.reduceMul, Nat.reduceSub, Nat.reduceLeDiff, Nat.reduceLT, reduceCtorEq, h1, m3, k7e, hxa, List.map_cons, List.map_nil, lt22, true_imp_iff, false_imp_iff]
      repeat' first
        | (refine goG_no fun v => ?_
           simp only [go_sem, reduceIte, Nat.reduceEqDiff, Nat.reduceAdd, Nat.reduceMul, Nat.reduceSub, Nat.reduceLeDiff, Nat.reduceLT, reduceCtorEq, h1, m3, k7e, hxa, List.map_cons, List.map_nil, lt22, true_imp_iff, false_imp_iff])
        | (refine goQg_no fun v => ?_
           simp only [go_sem, reduceIte, Nat.reduceEqDiff, Nat.reduceAdd, Nat.reduceMul, Nat.reduceSub, Nat.reduceLeDiff, Nat.reduceLT, reduceCtorEq, h1, m3, k7e, hxa, List.map_cons, List.map_nil, lt22, true_imp_iff, false_imp_iff])
        | (refine goH_no fun v => ?_
           simp only [go_sem, reduceIte, Nat.reduceEqDiff, Nat.reduceAdd, Nat.reduceMul, Nat.reduceSub, Nat.reduceLeDiff, Nat.reduceLT, reduceCtorEq, h1, m3, k7e, hxa, List.map_cons, List.map_nil, lt22, true_imp_iff, false_imp_iff])
      refine aw_if rfl (fun h => by simp at h) (fun h => ?_)
      refine aw_skip (hK3 _ _ ?_)
      refine aw_seq fun K4 hK4 => ?_
      refine aw_sr rfl ?_  -- r21
      simp only [go_sem, reduceIte, Nat.reduceEqDiff, Nat.reduceAdd, Nat.reduceMul, Nat.reduceSub, Nat.reduceLeDiff, Nat.reduceLT, reduceCtorEq, h1, m3, k7e, n8, true_imp_iff, false_imp_iff]
      repeat' first
        | (refine goG_no fun v => ?_
           simp only [go_sem, reduceIte, Nat.reduceEqDiff, Nat.reduceAdd, Nat.reduceMul, Nat.reduceSub, Nat.reduceLeDiff, Nat.reduceLT, reduceCtorEq, h1, m3, k7e, n8, true_imp_iff, false_imp_iff])
        | (refine goQg_no fun v => ?_
           simp only [go_sem, reduceIte, Nat.reduceEqDiff, Nat.reduceAdd, Nat.reduceMul, Nat.reduceSub, Nat.reduceLeDiff, Nat.reduceLT, reduceCtorEq, h1, m3, k7e, n8, true_imp_iff, false_imp_iff])
        | (refine goH_no fun v => ?_
           simp only [go_sem, reduceIte, Nat.reduceEqDiff, Nat.reduceAdd, Nat.reduceMul, Nat.reduceSub, Nat.reduceLeDiff, Nat.reduceLT, reduceCtorEq, h1, m3, k7e, n8, true_imp_iff, false_imp_iff])
      refine aw_if rfl (fun h => ?_) (fun h => by simp at h)
      refine aw_sr rfl ?_
      simp only [go_sem, reduceIte, Nat.reduceEqDiff, Nat.reduceAdd, Nat.reduceMul, Nat.reduceSub, Nat.reduceLeDiff, Nat.reduceLT, reduceCtorEq, m3, h2]
      refine aw_ret ⟨trivial, ?_⟩
      simp only [go_sem, reduceIte, Nat.reduceEqDiff, Nat.reduceAdd, Nat.reduceMul, Nat.reduceSub, Nat.reduceLeDiff, Nat.reduceLT, reduceCtorEq, resL, resOf, hget_hset_self h2]
      refine ⟨_, rfl, ?_, sub_hset_fresh hb2' hsB⟩
      rw [hout (by simp [g7, hxa])]; exact Vle.refl _
    · have hw : wid 8 (cEx c :: cEx y :: cEx w :: List.map eEx l) := by have := wid_ex x.args; rw [hxa] at this; simpa [eEx_eq] using this
      have hle : decide ((2 : Int) < ((l.length + 1 + 1 + 1 : Nat) : Int)) = true := by simp; omega
      have hl0 : ((0 : Int) < ((l.length + 1 + 1 + 1 : Nat) : Int)) = True := by simp; omega
      have hl1 : ((1 : Int) < ((l.length + 1 + 1 + 1 : Nat) : Int)) = True := by simp; omega
      have hl2 : ((2 : Int) < ((l.length + 1 + 1 + 1 : Nat) : Int)) = True := by simp; omega
      have hmy : y ∈ x.args := by rw [hxa]; simp
      have hmw : w ∈ x.args := by rw [hxa]; simp
      have hqy := q_Free y (hx.arg hmy) (Nat.le_of_lt_succ (Nat.lt_of_lt_of_le (Ex.sz_arg hmy) hsz))
      have hqw := q_Free w (hx.arg hmw) (Nat.le_of_lt_succ (Nat.lt_of_lt_of_le (Ex.sz_arg hmw) hsz))
      have hkn := q_known0 b3 hxa hl
      refine aw_mid (fun f' G' => FSub [(1, .ptr b1 0), (2, .ptr b2 0), (3, .ptr b3 0), (6, .func (.func 108) [] [.ptr b3 0]), (7, .func (.func 109) [] []), (86, .bool (litF c && decide (c.kind = 3)))] f' ∧ G' = B2) ?_ ?_
      · refine aw_rg rfl ?_  -- r15
        simp only [go_sem, reduceIte, Nat.reduceEqDiff, Nat.reduceAdd, Nat.reduceMul, Nat.reduceSub, Nat.reduceLeDiff, Nat.reduceLT, reduceCtorEq, h1, m3, k7e, hxa, eEx_eq, List.map_cons, toNat0, toNat1, toNat2, List.getD_cons_zero, List.getD_cons_succ, hle, hl0, hl1, hl2, hw, Int.le_refl, true_imp_iff, false_imp_iff]
        refine goH_on (fun _ => hkn) (sub_one m3) ?_
        cases hc : litF c with
        | true =>
          simp only [go_sem, reduceIte, Nat.reduceEqDiff, Nat.reduceAdd, Nat.reduceMul, Nat.reduceSub, Nat.reduceLeDiff, Nat.reduceLT, reduceCtorEq, h1, m3, k7e, hxa, eEx_eq, List.map_cons, toNat0, toNat1, toNat2, List.getD_cons_zero, List.getD_cons_succ, hle, hl0, hl1, hl2, hw, Int.le_refl, true_imp_iff, false_imp_iff]
          exact ⟨⟨rfl, rfl, rfl, rfl, rfl, rfl⟩, rfl⟩
        | false =>
          simp only [go_sem, reduceIte, Nat.reduceEqDiff, Nat.reduceAdd, Nat.reduceMul, Nat.reduceSub, Nat.reduceLeDiff, Nat.reduceLT, reduceCtorEq, h1, m3, k7e, hxa, eEx_eq, List.map_cons, toNat0, toNat1, toNat2, List.getD_cons_zero, List.getD_cons_succ, hle, hl0, hl1, hl2, hw, Int.le_refl, true_imp_iff, false_imp_iff]
          repeat' first
            | (refine goG_no fun v => ?_
               simp only [go_sem, reduceIte, Nat.reduceEqDiff, Nat.reduceAdd, Nat.reduceMul, Nat.reduceSub, Nat.reduceLeDiff, Nat.reduceLT, reduceCtorEq, h1, m3, k7e, hxa, eEx_eq, List.map_cons, toNat0, toNat1, toNat2, List.getD_cons_zero, List.getD_cons_succ, hle, hl0, hl1, hl2, hw, Int.le_refl, true_imp_iff, false_imp_iff])
            | (refine goQg_no fun v => ?_
               simp only [go_sem, reduceIte, Nat.reduceEqDiff, Nat.reduceAdd, Nat.reduceMul, Nat.reduceSub, Nat.reduceLeDiff, Nat.reduceLT, reduceCtorEq, h1, m3, k7e, hxa, eEx_eq, List.map_cons, toNat0, toNat1, toNat2, List.getD_cons_zero, List.getD_cons_succ, hle, hl0, hl1, hl2, hw, Int.le_refl, true_imp_iff, false_imp_iff])
            | (refine goH_no fun v => ?_
               simp only [go_sem, reduceIte, Nat.reduceEqDiff, Nat.reduceAdd, Nat.reduceMul, Nat.reduceSub, Nat.reduceLeDiff, Nat.reduceLT, reduceCtorEq, h1, m3, k7e, hxa, eEx_eq, List.map_cons, toNat0, toNat1, toNat2, List.getD_cons_zero, List.getD_cons_succ, hle, hl0, hl1, hl2, hw, Int.le_refl, true_imp_iff, false_imp_iff])
          exact ⟨⟨rfl, rfl, rfl, rfl, rfl, rfl⟩, rfl⟩
      intro f' G' ⟨hf, hg⟩
      rw [hg]
      refine AW.of_fsub hf ?_
      refine aw_if rfl (fun h => ?_) (fun h => ?_)
      · have hcl : litF c = true ∧ c.kind = 3 := by simpa using h
        obtain ⟨hc, hc3⟩ := hcl
        refine aw_mid (fun f' G' => ∃ b8 b9, FSub [(1, .ptr b1 0), (2, .ptr b2 0), (3, .ptr b3 0), (6, .func (.func 108) [] [.ptr b3 0]), (7, .func (.func 109) [] []), (8, .ptr b8 0), (9, .ptr b9 0)] f' ∧ Sub B2 G' ∧ hget G' b8 = some (.vars (cEx y)) ∧ hget G' b9 = some (.vars (cEx w))) ?_ ?_
        · refine aw_rgt [(0,true),(1,true),(2,true),(3,true),(4,true),(5,false),(6,true),(7,false),(8,false),(9,false),(10,false),(11,false)]
            (.fork3 [(0,true),(1,true),(2,true),(3,true),(4,true)] 5 8 9 (.fork3 [(6,true)] 7 8 9 (.fork2 [] 8 9 (.leaf [(9,false),(10,false),(11,false)]) (.leaf [(8,false),(10,false),(11,false)])) (.fork2 [] 7 9 (.leaf [(9,false),(10,false),(11,false)]) (.fork2 [] 7 10 (.leaf [(10,false),(11,false)]) (.leaf [(7,false),(11,false)]))) (.fork2 [] 7 8 (.leaf [(8,false),(10,false),(11,false)]) (.fork2 [] 7 10 (.leaf [(10,false),(11,false)]) (.leaf [(7,false),(11,false)])))) (.fork2 [] 5 9 (.fork2 [(6,true)] 7 9 (.leaf [(9,false),(10,false),(11,false)]) (.fork2 [] 7 10 (.leaf [(10,false),(11,false)]) (.leaf [(7,false),(11,false)]))) (.fork2 [] 5 10 (.fork2 [(6,true)] 7 10 (.leaf [(10,false),(11,false)]) (.leaf [(7,false),(11,false)])) (.leaf [(5,false),(6,true),(7,false),(11,false)]))) (.fork2 [] 5 8 (.fork2 [(6,true)] 7 8 (.leaf [(8,false),(10,false),(11,false)]) (.fork2 [] 7 10 (.leaf [(10,false),(11,false)]) (.leaf [(7,false),(11,false)]))) (.fork2 [] 5 10 (.fork2 [(6,true)] 7 10 (.leaf [(10,false),(11,false)]) (.leaf [(7,false),(11,false)])) (.leaf [(5,false),(6,true),(7,false),(11,false)])))) mixed rfl (by kernel_rfl) ?_  -- r16
          simp only [go_sem, reduceIte, Nat.reduceEqDiff, Nat.reduceAdd, Nat.reduceMul, Nat.reduceSub, Nat.reduceLeDiff, Nat.reduceLT, reduceCtorEq, goTr, h1, m3, k7e, hxa, eEx_eq, List.map_cons, toNat0, toNat1, toNat2, List.getD_cons_zero, List.getD_cons_succ, hle, hl0, hl1, hl2, hw, Int.le_refl, true_imp_iff, false_imp_iff]
          repeat' first
            | (intro bp hbp
               have n1 : ¬ b3 = bp := ne_fresh m3 hbp
               have n1' : ¬ bp = b3 := fun e => n1 e.symm
               simp only [go_sem, reduceIte, Nat.reduceEqDiff, Nat.reduceAdd, Nat.reduceMul, Nat.reduceSub, Nat.reduceLeDiff, Nat.reduceLT, reduceCtorEq, goTr, h1, m3, k7e, hxa, eEx_eq, List.map_cons, toNat0, toNat1, toNat2, List.getD_cons_zero, List.getD_cons_succ, hle, hl0, hl1, hl2, hw, Int.le_refl, true_imp_iff, false_imp_iff, hget_cons, hset_cons, n1, n1'])
            | (intro bq hbq
               obtain ⟨n3, hbq'⟩ := fresh_cons hbq
               have n3' := fun e => n3 (Eq.symm e)
               have n2 : ¬ b3 = bq := ne_fresh m3 hbq'
               have n2' : ¬ bq = b3 := fun e => n2 e.symm
               simp only [go_sem, reduceIte, Nat.reduceEqDiff, Nat.reduceAdd, Nat.reduceMul, Nat.reduceSub, Nat.reduceLeDiff, Nat.reduceLT, reduceCtorEq, goTr, h1, m3, k7e, hxa, eEx_eq, List.map_cons, toNat0, toNat1, toNat2, List.getD_cons_zero, List.getD_cons_succ, hle, hl0, hl1, hl2, hw, Int.le_refl, true_imp_iff, false_imp_iff, hget_cons, hset_cons, n1, n1', n2, n2', n3, n3'])
            | exact hw
            | decide
            | (refine ⟨_, _, ⟨rfl, rfl, rfl, rfl, rfl, rfl, rfl⟩, sub_fresh hbq' (sub_tail hbp), ?_, ?_⟩ <;> simp [hget_cons, n3, n3'])
            | refine And.intro ?_ ?_
        intro f' B3 ⟨b8, b9, hf, hs3, h8, h9⟩
        refine AW.of_fsub hf ?_
        have h1' := hs3 _ _ h1
        have h2' := hs3 _ _ h2
        have m3' := hs3 _ _ m3
        have hsC : Sub G B3 := sub_trans hsB hs3
        rcases (lit3 hc3).1 hc with n0 | n0
        · have hg7 : g7 x = (freeF y [] []).isEmpty := by simp [g7, hxa, k7, hc3, hc, n0]
          refine aw_sr rfl ?_  -- r17
          simp only [go_sem, reduceIte, Nat.reduceEqDiff, Nat.reduceAdd, Nat.reduceMul, Nat.reduceSub, Nat.reduceLeDiff, Nat.reduceLT, reduceCtorEq, m3', h9, n0, h1, m3, k7e, hxa, eEx_eq, List.map_cons, toNat0, toNat1, toNat2, List.getD_cons_zero, List.getD_cons_succ, hle, hl0, hl1, hl2, hw, Int.le_refl, true_imp_iff, false_imp_iff]
          refine goH_q (fun _ => hqw) ?_
          simp only [go_sem, reduceIte, Nat.reduceEqDiff, Nat.reduceAdd, Nat.reduceMul, Nat.reduceSub, Nat.reduceLeDiff, Nat.reduceLT, reduceCtorEq, m3', h9, n0, h1, m3, k7e, hxa, eEx_eq, List.map_cons, toNat0, toNat1, toNat2, List.getD_cons_zero, List.getD_cons_succ, hle, hl0, hl1, hl2, hw, Int.le_refl, true_imp_iff, false_imp_iff]
          refine aw_if rfl (fun h => by simp at h) (fun _ => ?_)
          refine aw_sr rfl ?_  -- r19
          simp only [go_sem, reduceIte, Nat.reduceEqDiff, Nat.reduceAdd, Nat.reduceMul, Nat.reduceSub, Nat.reduceLeDiff, Nat.reduceLT, reduceCtorEq, m3', h8, n0, h1, m3, k7e, hxa, eEx_eq, List.map_cons, toNat0, toNat1, toNat2, List.getD_cons_zero, List.getD_cons_succ, hle, hl0, hl1, hl2, hw, Int.le_refl, true_imp_iff, false_imp_iff]
          refine goH_q (fun _ => hqy) ?_
          simp only [go_sem, reduceIte, Nat.reduceEqDiff, Nat.reduceAdd, Nat.reduceMul, Nat.reduceSub, Nat.reduceLeDiff, Nat.reduceLT, reduceCtorEq, m3', h8, n0, h1, m3, k7e, hxa, eEx_eq, List.map_cons, toNat0, toNat1, toNat2, List.getD_cons_zero, List.getD_cons_succ, hle, hl0, hl1, hl2, hw, Int.le_refl, true_imp_iff, false_imp_iff]
          refine aw_if rfl (fun h => ?_) (fun h => ?_)
          · have hgt : g7 x = true := by rw [hg7, ← len_isE]; simpa using h
            obtain ⟨c', y', w', l', hxa', hf1⟩ := fold1_7 hgt
            rw [hxa] at hxa'
            cases hxa'
            have hf2 : fold1 x = w := by
              rcases hf1 with ⟨e1, _⟩ | ⟨_, e2⟩
              · rw [n0] at e1; cases e1
              · exact e2
            refine aw_sr rfl ?_  -- r20
            simp only [go_sem, reduceIte, Nat.reduceEqDiff, Nat.reduceAdd, Nat.reduceMul, Nat.reduceSub, Nat.reduceLeDiff, Nat.reduceLT, reduceCtorEq, h9, h2']
            refine aw_ret ⟨trivial, ?_⟩
            simp only [go_sem, reduceIte, Nat.reduceEqDiff, Nat.reduceAdd, Nat.reduceMul, Nat.reduceSub, Nat.reduceLeDiff, Nat.reduceLT, reduceCtorEq, resL, resOf, hget_hset_self h2']
            refine ⟨_, rfl, ?_, sub_hset_fresh hb2' hsC⟩
            rw [hf2]; exact Vle.refl _
          have hgf : g7 x = false := by rw [hg7, ← len_isE]; simpa using h
          refine aw_skip (hK3 _ _ ?_)
          refine aw_seq fun K4 hK4 => ?_
          refine aw_sr rfl ?_  -- r21
          simp only [go_sem, reduceIte, Nat.reduceEqDiff, Nat.reduceAdd, Nat.reduceMul, Nat.reduceSub, Nat.reduceLeDiff, Nat.reduceLT, reduceCtorEq, h1', m3', k7e, n8, true_imp_iff, false_imp_iff]
          repeat' first
            | (refine goG_no fun v => ?_
               simp only [go_sem, reduceIte, Nat.reduceEqDiff, Nat.reduceAdd, Nat.reduceMul, Nat.reduceSub, Nat.reduceLeDiff, Nat.reduceLT, reduceCtorEq, h1', m3', k7e, n8, true_imp_iff, false_imp_iff])
            | (refine goQg_no fun v => ?_
               simp only [go_sem, reduceIte, Nat.reduceEqDiff, Nat.reduceAdd, Nat.reduceMul, Nat.reduceSub, Nat.reduceLeDiff, Nat.reduceLT, reduceCtorEq, h1', m3', k7e, n8, true_imp_iff, false_imp_iff])
            | (refine goH_no fun v => ?_
               simp only [go_sem, reduceIte, Nat.reduceEqDiff, Nat.reduceAdd, Nat.reduceMul, Nat.reduceSub, Nat.reduceLeDiff, Nat.reduceLT, reduceCtorEq, h1', m3', k7e, n8, true_imp_iff, false_imp_iff])
          refine aw_if rfl (fun h => ?_) (fun h => by simp at h)
          refine aw_sr rfl ?_
          simp only [go_sem, reduceIte, Nat.reduceEqDiff, Nat.reduceAdd, Nat.reduceMul, Nat.reduceSub, Nat.reduceLeDiff, Nat.reduceLT, reduceCtorEq, m3', h2']
          refine aw_ret ⟨trivial, ?_⟩
          simp only [go_sem, reduceIte, Nat.reduceEqDiff, Nat.reduceAdd, Nat.reduceMul, Nat.reduceSub, Nat.reduceLeDiff, Nat.reduceLT, reduceCtorEq, resL, resOf, hget_hset_self h2']
          refine ⟨_, rfl, ?_, sub_hset_fresh hb2' hsC⟩
          rw [hout hgf]; exact Vle.refl _
        · have hg7 : g7 x = (freeF w [] []).isEmpty := by simp [g7, hxa, k7, hc3, hc, n0]
          refine aw_sr rfl ?_  -- r17
          simp only [go_sem, reduceIte, Nat.reduceEqDiff, Nat.reduceAdd, Nat.reduceMul, Nat.reduceSub, Nat.reduceLeDiff, Nat.reduceLT, reduceCtorEq, m3', h9, n0, h1, m3, k7e, hxa, eEx_eq, List.map_cons, toNat0, toNat1, toNat2, List.getD_cons_zero, List.getD_cons_succ, hle, hl0, hl1, hl2, hw, Int.le_refl, true_imp_iff, false_imp_iff]
          refine goH_q (fun _ => hqw) ?_
          simp only [go_sem, reduceIte, Nat.reduceEqDiff, Nat.reduceAdd, Nat.reduceMul, Nat.reduceSub, Nat.reduceLeDiff, Nat.reduceLT, reduceCtorEq, m3', h9, n0, h1, m3, k7e, hxa, eEx_eq, List.map_cons, toNat0, toNat1, toNat2, List.getD_cons_zero, List.getD_cons_succ, hle, hl0, hl1, hl2, hw, Int.le_refl, true_imp_iff, false_imp_iff]
          refine aw_if rfl (fun h => ?_) (fun h => ?_)
          · have hgt : g7 x = true := by rw [hg7, ← len_isE]; simpa using h
            obtain ⟨c', y', w', l', hxa', hf1⟩ := fold1_7 hgt
            rw [hxa] at hxa'
            cases hxa'
            have hf2 : fold1 x = y := by
              rcases hf1 with ⟨_, e1⟩ | ⟨e2, _⟩
              · exact e1
              · rw [n0] at e2; cases e2
            refine aw_sr rfl ?_  -- r18
            simp only [go_sem, reduceIte, Nat.reduceEqDiff, Nat.reduceAdd, Nat.reduceMul, Nat.reduceSub, Nat.reduceLeDiff, Nat.reduceLT, reduceCtorEq, h8, h2']
            refine aw_ret ⟨trivial, ?_⟩
            simp only [go_sem, reduceIte, Nat.reduceEqDiff, Nat.reduceAdd, Nat.reduceMul, Nat.reduceSub, Nat.reduceLeDiff, Nat.reduceLT, reduceCtorEq, resL, resOf, hget_hset_self h2']
            refine ⟨_, rfl, ?_, sub_hset_fresh hb2' hsC⟩
            rw [hf2]; exact Vle.refl _
          have hgf : g7 x = false := by rw [hg7, ← len_isE]; simpa using h
          refine aw_sr rfl ?_  -- r19
          simp only [go_sem, reduceIte, Nat.reduceEqDiff, Nat.reduceAdd, Nat.reduceMul, Nat.reduceSub, Nat.reduceLeDiff, Nat.reduceLT, reduceCtorEq, m3', h8, n0, h1, m3, k7e, hxa, eEx_eq, List.map_cons, toNat0, toNat1, toNat2, List.getD_cons_zero, List.getD_cons_succ, hle, hl0, hl1, hl2, hw, Int.le_refl, true_imp_iff, false_imp_iff]
          refine goH_q (fun _ => hqy) ?_
          simp only [go_sem, reduceIte, Nat.reduceEqDiff, Nat.reduceAdd, Nat.reduceMul, Nat.reduceSub, Nat.reduceLeDiff, Nat.reduceLT, reduceCtorEq, m3', h8, n0, h1, m3, k7e, hxa, eEx_eq, List.map_cons, toNat0, toNat1, toNat2, List.getD_cons_zero, List.getD_cons_succ, hle, hl0, hl1, hl2, hw, Int.le_refl, true_imp_iff, false_imp_iff]
          refine aw_if rfl (fun h => by simp at h) (fun _ => ?_)
          refine aw_skip (hK3 _ _ ?_)
          refine aw_seq fun K4 hK4 => ?_
          refine aw_sr rfl ?_  -- r21
          simp only [go_sem, reduceIte, Nat.reduceEqDiff, Nat.reduceAdd, Nat.reduceMul, Nat.reduceSub, Nat.reduceLeDiff, Nat.reduceLT, reduceCtorEq, h1', m3', k7e, n8, true_imp_iff, false_imp_iff]
          repeat' first
            | (refine goG_no fun v => ?_
               simp only [go_sem, reduceIte, Nat.reduceEqDiff, Nat.reduceAdd, Nat.reduceMul, Nat.reduceSub, Nat.reduceLeDiff, Nat.reduceLT, reduceCtorEq, h1', m3', k7e, n8, true_imp_iff, false_imp_iff])
            | (refine goQg_no fun v => ?_
               simp only [go_sem, reduceIte, Nat.reduceEqDiff, Nat.reduceAdd, Nat.reduceMul, Nat.reduceSub, Nat.reduceLeDiff, Nat.reduceLT, reduceCtorEq, h1', m3', k7e, n8, true_imp_iff, false_imp_iff])
            | (refine goH_no fun v => ?_
               simp only [go_sem, reduceIte, Nat.reduceEqDiff, Nat.reduceAdd, Nat.reduceMul, Nat.reduceSub, Nat.reduceLeDiff, Nat.reduceLT, reduceCtorEq, h1', m3', k7e, n8, true_imp_iff, false_imp_iff])
          refine aw_if rfl (fun h => ?_) (fun h => by simp at h)
          refine aw_sr rfl ?_
          simp only [go_sem, reduceIte, Nat.reduceEqDiff, Nat.reduceAdd, Nat.reduceMul, Nat.reduceSub, Nat.reduceLeDiff, Nat.reduceLT, reduceCtorEq, m3', h2']
          refine aw_ret ⟨trivial, ?_⟩
          simp only [go_sem, reduceIte, Nat.reduceEqDiff, Nat.reduceAdd, Nat.reduceMul, Nat.reduceSub, Nat.reduceLeDiff, Nat.reduceLT, reduceCtorEq, resL, resOf, hget_hset_self h2']
          refine ⟨_, rfl, ?_, sub_hset_fresh hb2' hsC⟩
          rw [hout hgf]; exact Vle.refl _
      · have hcl : (litF c && decide (c.kind = 3)) = false := h
        refine aw_skip (hK3 _ _ ?_)
        refine aw_seq fun K4 hK4 => ?_
        refine aw_sr rfl ?_  -- r21
        simp only [go_sem, reduceIte, Nat.reduceEqDiff, Nat.reduceAdd, Nat.reduceMul, Nat.reduceSub, Nat.reduceLeDiff, Nat.reduceLT, reduceCtorEq, h1, m3, k7e, n8, true_imp_iff, false_imp_iff]
        repeat' first
          | (refine goG_no fun v => ?_
             simp only [go_sem, reduceIte, Nat.reduceEqDiff, Nat.reduceAdd, Nat.reduceMul, Nat.reduceSub, Nat.reduceLeDiff, Nat.reduceLT, reduceCtorEq, h1, m3, k7e, n8, true_imp_iff, false_imp_iff])
          | (refine goQg_no fun v => ?_
             simp only [go_sem, reduceIte, Nat.reduceEqDiff, Nat.reduceAdd, Nat.reduceMul, Nat.reduceSub, Nat.reduceLeDiff, Nat.reduceLT, reduceCtorEq, h1, m3, k7e, n8, true_imp_iff, false_imp_iff])
          | (refine goH_no fun v => ?_
             simp only [go_sem, reduceIte, Nat.reduceEqDiff, Nat.reduceAdd, Nat.reduceMul, Nat.reduceSub, Nat.reduceLeDiff, Nat.reduceLT, reduceCtorEq, h1, m3, k7e, n8, true_imp_iff, false_imp_iff])
        refine aw_if rfl (fun h => ?_) (fun h => by simp at h)
        refine aw_sr rfl ?_
        simp only [go_sem, reduceIte, Nat.reduceEqDiff, Nat.reduceAdd, Nat.reduceMul, Nat.reduceSub, Nat.reduceLeDiff, Nat.reduceLT, reduceCtorEq, m3, h2]
        refine aw_ret ⟨trivial, ?_⟩
        simp only [go_sem, reduceIte, Nat.reduceEqDiff, Nat.reduceAdd, Nat.reduceMul, Nat.reduceSub, Nat.reduceLeDiff, Nat.reduceLT, reduceCtorEq, resL, resOf, hget_hset_self h2]
        refine ⟨_, rfl, ?_, sub_hset_fresh hb2' hsB⟩
        rw [hout (by cases e1 : litF c <;> cases e2 : decide (c.kind = 3) <;> simp [g7, hxa, e1, e2, of_decide_eq_false] at hcl ⊢ <;> simp_all)]; exact Vle.refl _
  have k7e : ¬ e.kind = 7 := hk ▸ k7
  have k7' := decide_eq_false k7e
  have hg7 : g7 x = false := g7_off k7
  refine aw_sr rfl ?_  -- r15
  simp only [go_sem, reduceIte, Nat.reduceEqDiff, Nat.reduceAdd, Nat.reduceMul, Nat.reduceSub, Nat.reduceLeDiff, Nat.reduceLT, reduceCtorEq, h1, m3, k7e, k7', true_imp_iff, false_imp_iff]
  repeat' first
    | (refine goG_no fun v => ?_
       simp only [go_sem, reduceIte, Nat.reduceEqDiff, Nat.reduceAdd, Nat.reduceMul, Nat.reduceSub, Nat.reduceLeDiff, Nat.reduceLT, reduceCtorEq, h1, m3, k7e, k7', true_imp_iff, false_imp_iff])
    | (refine goQg_no fun v => ?_
       simp only [go_sem, reduceIte, Nat.reduceEqDiff, Nat.reduceAdd, Nat.reduceMul, Nat.reduceSub, Nat.reduceLeDiff, Nat.reduceLT, reduceCtorEq, h1, m3, k7e, k7', true_imp_iff, false_imp_iff])
    | (refine goH_no fun v => ?_
       simp only [go_sem, reduceIte, Nat.reduceEqDiff, Nat.reduceAdd, Nat.reduceMul, Nat.reduceSub, Nat.reduceLeDiff, Nat.reduceLT, reduceCtorEq, h1, m3, k7e, k7', true_imp_iff, false_imp_iff])
  refine aw_if rfl (fun h => by simp at h) (fun h => ?_)
  refine aw_skip (hK3 _ _ ?_)
  refine aw_seq fun K4 hK4 => ?_
  by_cases k8 : x.kind = 8
  · have k8e : e.kind = 8 := hk ▸ k8
    have e88 : decide ((8 : Int) ≠ 8) = false := rfl
    have e00 : decide (((0 : Nat) : Int) = 0) = true := rfl
    rcases hxa : x.args with _ | ⟨a, l⟩
    · refine aw_sr rfl ?_  -- r21
      simp only [go_sem, reduceIte, Nat.reduceEqDiff, Nat.reduceAdd, Nat.reduceMul, Nat.reduceSub, Nat.reduceLeDiff, Nat.reduceLT, reduceCtorEq, h1, m3, k8e, hxa, List.map_nil, e88, e00, Bool.false_or, Bool.or_true, true_imp_iff, false_imp_iff]
      repeat' first
        | (refine goG_no fun v => ?_
           simp only [go_sem, reduceIte, Nat.reduceEqDiff, Nat.reduceAdd, Nat.reduceMul, Nat.reduceSub, Nat.reduceLeDiff, Nat.reduceLT, reduceCtorEq, h1, m3, k8e, hxa, List.map_nil, e88, e00, Bool.false_or, Bool.or_true, true_imp_iff, false_imp_iff])
        | (refine goQg_no fun v => ?_
           simp only [go_sem, reduceIte, Nat.reduceEqDiff, Nat.reduceAdd, Nat.reduceMul, Nat.reduceSub, Nat.reduceLeDiff, Nat.reduceLT, reduceCtorEq, h1, m3, k8e, hxa, List.map_nil, e88, e00, Bool.false_or, Bool.or_true, true_imp_iff, false_imp_iff])
        | (refine goH_no fun v => ?_
           simp only [go_sem, reduceIte, Nat.reduceEqDiff, Nat.reduceAdd, Nat.reduceMul, Nat.reduceSub, Nat.reduceLeDiff, Nat.reduceLT, reduceCtorEq, h1, m3, k8e, hxa, List.map_nil, e88, e00, Bool.false_or, Bool.or_true, true_imp_iff, false_imp_iff])
      refine aw_if rfl (fun h => ?_) (fun h => by simp at h)
      refine aw_sr rfl ?_
      simp only [go_sem, reduceIte, Nat.reduceEqDiff, Nat.reduceAdd, Nat.reduceMul, Nat.reduceSub, Nat.reduceLeDiff, Nat.reduceLT, reduceCtorEq, m3, h2]
      refine aw_ret ⟨trivial, ?_⟩
      simp only [go_sem, reduceIte, Nat.reduceEqDiff, Nat.reduceAdd, Nat.reduceMul, Nat.reduceSub, Nat.reduceLeDiff, Nat.reduceLT, reduceCtorEq, resL, resOf, hget_hset_self h2]
      refine ⟨_, rfl, ?_, sub_hset_fresh hb2' hsB⟩
      rw [fold1_0 hg7 (by simp [g8, hxa]) (by simp [g9, hxa])]; exact Vle.refl _
    · have ela : decide (((l.length + 1 : Nat) : Int) = 0) = false := decide_eq_false (by omega)
      have hla0 : ((0 : Int) < ((l.length + 1 : Nat) : Int)) = True := eq_true (by omega)
      have hwa : wid 8 (cEx a :: List.map eEx l) := by have := wid_ex x.args; rw [hxa] at this; simpa [eEx_eq] using this
      have hkn := q_known0 b3 hxa hl
      refine aw_sr rfl ?_  -- r21
      simp only [go_sem, reduceIte, Nat.reduceEqDiff, Nat.reduceAdd, Nat.reduceMul, Nat.reduceSub, Nat.reduceLeDiff, Nat.reduceLT, reduceCtorEq, h1, m3, k8e, hxa, eEx_eq, List.map_cons, List.length_cons, toNat0, toNat1, List.getD_cons_zero, List.getD_cons_succ, e88, ela, Bool.false_or, Bool.or_false, Bool.or_true, true_imp_iff, false_imp_iff]
      refine goH_on (fun _ => hkn) (sub_one m3) ?_
      simp only [go_sem, reduceIte, Nat.reduceEqDiff, Nat.reduceAdd, Nat.reduceMul, Nat.reduceSub, Nat.reduceLeDiff, Nat.reduceLT, reduceCtorEq, h1, m3, k8e, hxa, eEx_eq, List.map_cons, List.length_cons, toNat0, toNat1, List.getD_cons_zero, List.getD_cons_succ, e88, ela, Bool.false_or, Bool.or_false, Bool.or_true, true_imp_iff, false_imp_iff]
      refine aw_if rfl (fun h => ?_) (fun h => ?_)
      · have hla : litF a = false := by simpa using h
        refine aw_sr rfl ?_
        simp only [go_sem, reduceIte, Nat.reduceEqDiff, Nat.reduceAdd, Nat.reduceMul, Nat.reduceSub, Nat.reduceLeDiff, Nat.reduceLT, reduceCtorEq, m3, h2]
        refine aw_ret ⟨trivial, ?_⟩
        simp only [go_sem, reduceIte, Nat.reduceEqDiff, Nat.reduceAdd, Nat.reduceMul, Nat.reduceSub, Nat.reduceLeDiff, Nat.reduceLT, reduceCtorEq, resL, resOf, hget_hset_self h2]
        refine ⟨_, rfl, ?_, sub_hset_fresh hb2' hsB⟩
        rw [fold1_0 hg7 (by cases l <;> simp [g8, hxa, hla]) (by rcases l with _ | ⟨d, _ | ⟨d2, l2⟩⟩ <;> simp [g9, hxa, hla])]; exact Vle.refl _
      have hla : litF a = true := by simpa using h
      refine aw_skip (hK4 _ _ ?_)
      refine aw_sr rfl ?_  -- r23
      simp only [go_sem, reduceIte, Nat.reduceEqDiff, Nat.reduceAdd, Nat.reduceMul, Nat.reduceSub, Nat.reduceLeDiff, Nat.reduceLT, reduceCtorEq, m3, hxa, eEx_eq, List.map_cons, List.length_cons, toNat0, List.getD_cons_zero, hla0, hwa, Int.le_refl]
      intro b10 hb10
      have n10 : ¬ b3 = b10 := ne_fresh m3 hb10
      refine aw_box1 hb10 fun B4 hs4 h10 => ?_
      replace h1 := hs4 _ _ h1
      replace h2 := hs4 _ _ h2
      replace m3 := hs4 _ _ m3
      replace hsB := sub_trans hsB hs4
      refine aw_seq fun K5 hK5 => ?_
      rcases l with _ | ⟨d, _ | ⟨d2, l2⟩⟩
      · have hf : g9 x = false := by simp [g9, hxa]
        have ne2 : decide (((0 + 1 : Nat) : Int) ≠ 2) = true := rfl
        have hskip : g8 x = false → ∀ f, FSub [(1, .ptr b1 0), (2, .ptr b2 0), (3, .ptr b3 0), (6, .func (.func 108) [] [.ptr b3 0]), (7, .func (.func 109) [] []), (10, .ptr b10 0)] f → K5 f B4 := by
          intro h8 f hfr
          refine hK5 _ _ (AW.of_fsub hfr ?_)
          refine aw_seq fun K6 hK6 => ?_
          refine aw_srd [(0,true),(1,true),(2,true),(3,true),(4,true),(5,true),(6,true),(7,true),(8,true),(9,true),(10,true),(11,true),(12,true),(13,true),(14,true),(15,true),(16,true),(17,true),(18,true)] mixed rfl (by kernel_rfl) ?_  -- r26
          simp only [go_sem, reduceIte, Nat.reduceEqDiff, Nat.reduceAdd, Nat.reduceMul, Nat.reduceSub, Nat.reduceLeDiff, Nat.reduceLT, reduceCtorEq, m3, h10, hxa, List.map_cons, List.map_nil, List.length_cons, List.length_nil, ne2, true_imp_iff, false_imp_iff]
          repeat' first
            | (refine goG_no fun v => ?_
               simp only [go_sem, reduceIte, Nat.reduceEqDiff, Nat.reduceAdd, Nat.reduceMul, Nat.reduceSub, Nat.reduceLeDiff, Nat.reduceLT, reduceCtorEq, m3, h10, hxa, List.map_cons, List.map_nil, List.length_cons, List.length_nil, ne2, true_imp_iff, false_imp_iff])
            | (refine goQg_no fun v => ?_
               simp only [go_sem, reduceIte, Nat.reduceEqDiff, Nat.reduceAdd, Nat.reduceMul, Nat.reduceSub, Nat.reduceLeDiff, Nat.reduceLT, reduceCtorEq, m3, h10, hxa, List.map_cons, List.map_nil, List.length_cons, List.length_nil, ne2, true_imp_iff, false_imp_iff])
            | (refine goH_no fun v => ?_
               simp only [go_sem, reduceIte, Nat.reduceEqDiff, Nat.reduceAdd, Nat.reduceMul, Nat.reduceSub, Nat.reduceLeDiff, Nat.reduceLT, reduceCtorEq, m3, h10, hxa, List.map_cons, List.map_nil, List.length_cons, List.length_nil, ne2, true_imp_iff, false_imp_iff])
          refine aw_if rfl (fun h => ?_) (fun h => by simp at h)
          refine aw_sr rfl ?_
          simp only [go_sem, reduceIte, Nat.reduceEqDiff, Nat.reduceAdd, Nat.reduceMul, Nat.reduceSub, Nat.reduceLeDiff, Nat.reduceLT, reduceCtorEq, m3, h2]
          refine aw_ret ⟨trivial, ?_⟩
          simp only [go_sem, reduceIte, Nat.reduceEqDiff, Nat.reduceAdd, Nat.reduceMul, Nat.reduceSub, Nat.reduceLeDiff, Nat.reduceLT, reduceCtorEq, resL, resOf, hget_hset_self h2]
          refine ⟨_, rfl, ?_, sub_hset_fresh hb2' hsB⟩
          rw [fold1_0 hg7 h8 hf]; exact Vle.refl _
        by_cases kt : e.text = [110, 111, 116]
        · by_cases k3 : a.kind = 3
          · have hg8 : g8 x = true := by simp [g8, hxa, k8, ht, kt, k3, hla]
            refine aw_sr rfl ?_  -- r24
            simp only [go_sem, reduceIte, Nat.reduceEqDiff, Nat.reduceAdd, Nat.reduceMul, Nat.reduceSub, Nat.reduceLeDiff, Nat.reduceLT, reduceCtorEq, m3, h1, h10, hxa, eEx_eq, List.map_cons, List.map_nil, List.length_cons, List.length_nil, toNat0, toNat1, List.getD_cons_zero, List.getD_cons_succ, eq11, true_imp_iff, false_imp_iff, kt, k3]
            refine aw_if rfl (fun h => ?_) (fun h => by simp at h)
            refine aw_sr rfl ?_  -- r25
            simp only [go_sem, reduceIte, Nat.reduceEqDiff, Nat.reduceAdd, Nat.reduceMul, Nat.reduceSub, Nat.reduceLeDiff, Nat.reduceLT, reduceCtorEq, h10]
            refine goA_q (q_flag _) ?_
            simp only [go_sem, reduceIte, Nat.reduceEqDiff, Nat.reduceAdd, Nat.reduceMul, Nat.reduceSub, Nat.reduceLeDiff, Nat.reduceLT, reduceCtorEq, h10, h2]
            refine aw_ret ⟨trivial, ?_⟩
            simp only [go_sem, reduceIte, Nat.reduceEqDiff, Nat.reduceAdd, Nat.reduceMul, Nat.reduceSub, Nat.reduceLeDiff, Nat.reduceLT, reduceCtorEq, resL, resOf, hget_hset_self h2]
            refine ⟨_, rfl, ?_, sub_hset_fresh hb2' hsB⟩
            obtain ⟨a', hxa', hf1⟩ := fold1_8 hg8
            rw [hxa] at hxa'
            cases hxa'
            have hd : decide (a.num ≠ 1) = decide (a.num = 0) := by
              rcases (lit3 k3).1 hla with n0 | n0 <;> rw [n0] <;> rfl
            rw [hf1, ← hd]; exact Vle.refl _
          · have k3' := decide_eq_false k3
            refine aw_sr rfl ?_  -- r24
            simp only [go_sem, reduceIte, Nat.reduceEqDiff, Nat.reduceAdd, Nat.reduceMul, Nat.reduceSub, Nat.reduceLeDiff, Nat.reduceLT, reduceCtorEq, m3, h1, h10, hxa, eEx_eq, List.map_cons, List.map_nil, List.length_cons, List.length_nil, toNat0, toNat1, List.getD_cons_zero, List.getD_cons_succ, eq11, true_imp_iff, false_imp_iff, kt, k3']
            repeat' first
              | (refine goG_no fun v => ?_
                 simp only [go_sem, reduceIte, Nat.reduceEqDiff, Nat.reduceAdd, Nat.reduceMul, Nat.reduceSub, Nat.reduceLeDiff, Nat.reduceLT, reduceCtorEq, m3, h1, h10, hxa, eEx_eq, List.map_cons, List.map_nil, List.length_cons, List.length_nil, toNat0, toNat1, List.getD_cons_zero, List.getD_cons_succ, eq11, true_imp_iff, false_imp_iff, kt, k3'])
              | (refine goQg_no fun v => ?_
                 simp only [go_sem, reduceIte, Nat.reduceEqDiff, Nat.reduceAdd, Nat.reduceMul, Nat.reduceSub, Nat.reduceLeDiff, Nat.reduceLT, reduceCtorEq, m3, h1, h10, hxa, eEx_eq, List.map_cons, List.map_nil, List.length_cons, List.length_nil, toNat0, toNat1, List.getD_cons_zero, List.getD_cons_succ, eq11, true_imp_iff, false_imp_iff, kt, k3'])
              | (refine goH_no fun v => ?_
                 simp only [go_sem, reduceIte, Nat.reduceEqDiff, Nat.reduceAdd, Nat.reduceMul, Nat.reduceSub, Nat.reduceLeDiff, Nat.reduceLT, reduceCtorEq, m3, h1, h10, hxa, eEx_eq, List.map_cons, List.map_nil, List.length_cons, List.length_nil, toNat0, toNat1, List.getD_cons_zero, List.getD_cons_succ, eq11, true_imp_iff, false_imp_iff, kt, k3'])
            refine aw_if rfl (fun h => by simp at h) (fun h => ?_)
            refine aw_skip (hskip (by simp [g8, hxa, k3]) _ ?_)
            exact ⟨rfl, rfl, rfl, rfl, rfl, rfl, trivial⟩
        · have kt' := decide_eq_false kt
          refine aw_sr rfl ?_  -- r24
          simp only [go_sem, reduceIte, Nat.reduceEqDiff, Nat.reduceAdd, Nat.reduceMul, Nat.reduceSub, Nat.reduceLeDiff, Nat.reduceLT, reduceCtorEq, m3, h1, h10, hxa, eEx_eq, List.map_cons, List.map_nil, List.length_cons, List.length_nil, toNat0, toNat1, List.getD_cons_zero, List.getD_cons_succ, eq11, true_imp_iff, false_imp_iff, kt']
          repeat' first
            | (refine goG_no fun v => ?_
               simp only [go_sem, reduceIte, Nat.reduceEqDiff, Nat.reduceAdd, Nat.reduceMul, Nat.reduceSub, Nat.reduceLeDiff, Nat.reduceLT, reduceCtorEq, m3, h1, h10, hxa, eEx_eq, List.map_cons, List.map_nil, List.length_cons, List.length_nil, toNat0, toNat1, List.getD_cons_zero, List.getD_cons_succ, eq11, true_imp_iff, false_imp_iff, kt'])
            | (refine goQg_no fun v => ?_
               simp only [go_sem, reduceIte, Nat.reduceEqDiff, Nat.reduceAdd, Nat.reduceMul, Nat.reduceSub, Nat.reduceLeDiff, Nat.reduceLT, reduceCtorEq, m3, h1, h10, hxa, eEx_eq, List.map_cons, List.map_nil, List.length_cons, List.length_nil, toNat0, toNat1, List.getD_cons_zero, List.getD_cons_succ, eq11, true_imp_iff, false_imp_iff, kt'])
            | (refine goH_no fun v => ?_
               simp only [go_sem, reduceIte, Nat.reduceEqDiff, Nat.reduceAdd, Nat.reduceMul, Nat.reduceSub, Nat.reduceLeDiff, Nat.reduceLT, reduceCtorEq, m3, h1, h10, hxa, eEx_eq, List.map_cons, List.map_nil, List.length_cons, List.length_nil, toNat0, toNat1, List.getD_cons_zero, List.getD_cons_succ, eq11, true_imp_iff, false_imp_iff, kt'])
          refine aw_if rfl (fun h => by simp at h) (fun h => ?_)
          refine aw_skip (hskip (by simp [g8, hxa, ht, kt]) _ ?_)
          exact ⟨rfl, rfl, rfl, rfl, rfl, rfl, trivial⟩
      · have h8 : g8 x = false := by simp [g8, hxa]
        have ne1 : decide (((0 + 1 + 1 : Nat) : Int) = 1) = false := rfl
        have ne2 : decide (((0 + 1 + 1 : Nat) : Int) ≠ 2) = false := rfl
        refine aw_sr rfl ?_  -- r24
        simp only [go_sem, reduceIte, Nat.reduceEqDiff, Nat.reduceAdd, Nat.reduceMul, Nat.reduceSub, Nat.reduceLeDiff, Nat.reduceLT, reduceCtorEq, m3, h1, h10, hxa, eEx_eq, List.map_cons, List.map_nil, List.length_cons, List.length_nil, ne1, true_imp_iff, false_imp_iff]
        repeat' first
          | (refine goG_no fun v => ?_
             simp only [go_sem, reduceIte, Nat.reduceEqDiff, Nat.reduceAdd, Nat.reduceMul, Nat.reduceSub, Nat.reduceLeDiff, Nat.reduceLT, reduceCtorEq, m3, h1, h10, hxa, eEx_eq, List.map_cons, List.map_nil, List.length_cons, List.length_nil, ne1, true_imp_iff, false_imp_iff])
          | (refine goQg_no fun v => ?_
             simp only [go_sem, reduceIte, Nat.reduceEqDiff, Nat.reduceAdd, Nat.reduceMul, Nat.reduceSub, Nat.reduceLeDiff, Nat.reduceLT, reduceCtorEq, m3, h1, h10, hxa, eEx_eq, List.map_cons, List.map_nil, List.length_cons, List.length_nil, ne1, true_imp_iff, false_imp_iff])
          | (refine goH_no fun v => ?_
             simp only [go_sem, reduceIte, Nat.reduceEqDiff, Nat.reduceAdd, Nat.reduceMul, Nat.reduceSub, Nat.reduceLeDiff, Nat.reduceLT, reduceCtorEq, m3, h1, h10, hxa, eEx_eq, List.map_cons, List.map_nil, List.length_cons, List.length_nil, ne1, true_imp_iff, false_imp_iff])
        refine aw_if rfl (fun h => by simp at h) (fun h => ?_)
        refine aw_skip (hK5 _ _ ?_)
        have z01 : ((0 : Int) ≤ 1) = True := eq_true (by decide)
        have hl1 : ((1 : Int) < ((0 + 1 + 1 : Nat) : Int)) = True := by simp
        have hw2 : wid 8 [cEx a, cEx d] := by simp [wid]
        refine aw_seq fun K6 hK6 => ?_
        refine aw_srd [(0,true),(1,true),(2,true),(3,true),(4,true),(5,true),(6,true),(7,true),(8,true),(9,true),(10,true),(11,true),(12,true),(13,true),(14,true),(15,true),(16,true),(17,true),(18,true)] mixed rfl (by kernel_rfl) ?_  -- r26
        simp only [go_sem, reduceIte, Nat.reduceEqDiff, Nat.reduceAdd, Nat.reduceMul, Nat.reduceSub, Nat.reduceLeDiff, Nat.reduceLT, reduceCtorEq, m3, h1, h10, hxa, eEx_eq, List.map_cons, List.map_nil, List.length_cons, List.length_nil, toNat0, toNat1, List.getD_cons_zero, List.getD_cons_succ, ne2, hl1, hw2, z01, Int.le_refl, true_and, true_imp_iff, false_imp_iff]
        refine goQg_on (fun _ => QuietOn.qon (q_known1 b3 hxa hl) m3) ?_
        cases hld : litF d with
        | false =>
          simp only [go_sem, reduceIte, Nat.reduceEqDiff, Nat.reduceAdd, Nat.reduceMul, Nat.reduceSub, Nat.reduceLeDiff, Nat.reduceLT, reduceCtorEq, m3, h1, h10, hxa, eEx_eq, List.map_cons, List.map_nil, List.length_cons, List.length_nil, toNat0, toNat1, List.getD_cons_zero, List.getD_cons_succ, ne2, hl1, hw2, z01, Int.le_refl, true_and, true_imp_iff, false_imp_iff]
          repeat' first
            | (refine goG_no fun v => ?_
               simp only [go_sem, reduceIte, Nat.reduceEqDiff, Nat.reduceAdd, Nat.reduceMul, Nat.reduceSub, Nat.reduceLeDiff, Nat.reduceLT, reduceCtorEq, m3, h1, h10, hxa, eEx_eq, List.map_cons, List.map_nil, List.length_cons, List.length_nil, toNat0, toNat1, List.getD_cons_zero, List.getD_cons_succ, ne2, hl1, hw2, z01, Int.le_refl, true_and, true_imp_iff, false_imp_iff])
            | (refine goQg_no fun v => ?_
               simp only [go_sem, reduceIte, Nat.reduceEqDiff, Nat.reduceAdd, Nat.reduceMul, Nat.reduceSub, Nat.reduceLeDiff, Nat.reduceLT, reduceCtorEq, m3, h1, h10, hxa, eEx_eq, List.map_cons, List.map_nil, List.length_cons, List.length_nil, toNat0, toNat1, List.getD_cons_zero, List.getD_cons_succ, ne2, hl1, hw2, z01, Int.le_refl, true_and, true_imp_iff, false_imp_iff])
            | (refine goH_no fun v => ?_
               simp only [go_sem, reduceIte, Nat.reduceEqDiff, Nat.reduceAdd, Nat.reduceMul, Nat.reduceSub, Nat.reduceLeDiff, Nat.reduceLT, reduceCtorEq, m3, h1, h10, hxa, eEx_eq, List.map_cons, List.map_nil, List.length_cons, List.length_nil, toNat0, toNat1, List.getD_cons_zero, List.getD_cons_succ, ne2, hl1, hw2, z01, Int.le_refl, true_and, true_imp_iff, false_imp_iff])
          refine aw_if rfl (fun h => ?_) (fun h => by simp at h)
          refine aw_sr rfl ?_
          simp only [go_sem, reduceIte, Nat.reduceEqDiff, Nat.reduceAdd, Nat.reduceMul, Nat.reduceSub, Nat.reduceLeDiff, Nat.reduceLT, reduceCtorEq, m3, h2]
          refine aw_ret ⟨trivial, ?_⟩
          simp only [go_sem, reduceIte, Nat.reduceEqDiff, Nat.reduceAdd, Nat.reduceMul, Nat.reduceSub, Nat.reduceLeDiff, Nat.reduceLT, reduceCtorEq, resL, resOf, hget_hset_self h2]
          refine ⟨_, rfl, ?_, sub_hset_fresh hb2' hsB⟩
          rw [fold1_0 hg7 h8 (by simp [g9, hxa, hld])]; exact Vle.refl _
        | true =>
          simp only [go_sem, reduceIte, Nat.reduceEqDiff, Nat.reduceAdd, Nat.reduceMul, Nat.reduceSub, Nat.reduceLeDiff, Nat.reduceLT, reduceCtorEq, m3, h1, h10, hxa, eEx_eq, List.map_cons, List.map_nil, List.length_cons, List.length_nil, toNat0, toNat1, List.getD_cons_zero, List.getD_cons_succ, ne2, hl1, hw2, z01, Int.le_refl, true_and, true_imp_iff, false_imp_iff]
          refine aw_if rfl (fun h => ?_) (fun h => ?_)
          · have hkd : ¬ d.kind = a.kind := by simpa using h
            refine aw_sr rfl ?_
            simp only [go_sem, reduceIte, Nat.reduceEqDiff, Nat.reduceAdd, Nat.reduceMul, Nat.reduceSub, Nat.reduceLeDiff, Nat.reduceLT, reduceCtorEq, m3, h2]
            refine aw_ret ⟨trivial, ?_⟩
            simp only [go_sem, reduceIte, Nat.reduceEqDiff, Nat.reduceAdd, Nat.reduceMul, Nat.reduceSub, Nat.reduceLeDiff, Nat.reduceLT, reduceCtorEq, resL, resOf, hget_hset_self h2]
            refine ⟨_, rfl, ?_, sub_hset_fresh hb2' hsB⟩
            rw [fold1_0 hg7 h8 (by simp [g9, hxa, show ¬ a.kind = d.kind from fun q => hkd q.symm])]; exact Vle.refl _
          have hkd : d.kind = a.kind := by simpa using h
          obtain ⟨a', d', hxa', hf1⟩ := fold1_9 (x := x) (by simp [g9, hxa, k8, hla, hld, hkd])
          rw [hxa] at hxa'
          cases hxa'
          refine aw_skip (hK6 _ _ ?_)
          refine aw_sr rfl ?_  -- r28
          simp only [go_sem, reduceIte, Nat.reduceEqDiff, Nat.reduceAdd, Nat.reduceMul, Nat.reduceSub, Nat.reduceLeDiff, Nat.reduceLT, reduceCtorEq, m3, h1, h10, hxa, eEx_eq, List.map_cons, List.map_nil, List.length_cons, List.length_nil, toNat0, toNat1, List.getD_cons_zero, List.getD_cons_succ, ne2, hl1, hw2, z01, Int.le_refl, true_and, true_imp_iff, false_imp_iff]
          intro b11 hb11
          refine aw_box1 hb11 fun B5 hs5 h11 => ?_
          replace h1 := hs5 _ _ h1
          replace h2 := hs5 _ _ h2
          replace m3 := hs5 _ _ m3
          replace h10 := hs5 _ _ h10
          replace hsB := sub_trans hsB hs5
          have ha2 := (hx.arg (show a ∈ x.args by rw [hxa]; simp)).text
          have hd2 := (hx.arg (show d ∈ x.args by rw [hxa]; simp)).text
          have ew : IntKind.i64.wrap ((a.text.length : Int) + (d.text.length : Int)) = (a.text.length : Int) + (d.text.length : Int) := wrap64 (by omega) (by omega)
          refine aw_sr rfl ?_  -- r29
          simp only [go_sem, reduceIte, Nat.reduceEqDiff, Nat.reduceAdd, Nat.reduceMul, Nat.reduceSub, Nat.reduceLeDiff, Nat.reduceLT, reduceCtorEq]
          refine aw_seq fun K7 hK7 => ?_
          refine aw_sr rfl ?_  -- r30
          simp only [go_sem, reduceIte, Nat.reduceEqDiff, Nat.reduceAdd, Nat.reduceMul, Nat.reduceSub, Nat.reduceLeDiff, Nat.reduceLT, reduceCtorEq, h1]
          refine aw_block ?_
          refine aw_sr rfl ?_  -- r31
          simp only [go_sem, reduceIte, Nat.reduceEqDiff, Nat.reduceAdd, Nat.reduceMul, Nat.reduceSub, Nat.reduceLeDiff, Nat.reduceLT, reduceCtorEq]
          refine aw_if rfl (fun h => ?_) (fun h => ?_)
          · have h61 : x.text = [61] := by rw [ht]; simpa using h
            refine aw_sr rfl ?_  -- r32
            simp only [go_sem, reduceIte, Nat.reduceEqDiff, Nat.reduceAdd, Nat.reduceMul, Nat.reduceSub, Nat.reduceLeDiff, Nat.reduceLT, reduceCtorEq, h10, h11]
            refine goA_q (q_flag _) ?_
            simp only [go_sem, reduceIte, Nat.reduceEqDiff, Nat.reduceAdd, Nat.reduceMul, Nat.reduceSub, Nat.reduceLeDiff, Nat.reduceLT, reduceCtorEq, h10, h11, h2]
            refine aw_ret ⟨trivial, ?_⟩
            simp only [go_sem, reduceIte, Nat.reduceEqDiff, Nat.reduceAdd, Nat.reduceMul, Nat.reduceSub, Nat.reduceLeDiff, Nat.reduceLT, reduceCtorEq, resL, resOf, hget_hset_self h2]
            refine ⟨_, rfl, ?_, sub_hset_fresh hb2' hsB⟩
            rw [hf1, show twoF x a d = truthF (decide (a.num = d.num) && decide (a.text = d.text)) from by simp [twoF, h61]]; exact Vle.refl _
          have h61 : ¬ x.text = [61] := by rw [ht]; simpa using h
          refine aw_sr rfl ?_  -- r33
          simp only [go_sem, reduceIte, Nat.reduceEqDiff, Nat.reduceAdd, Nat.reduceMul, Nat.reduceSub, Nat.reduceLeDiff, Nat.reduceLT, reduceCtorEq, h10, h11]
          refine ⟨fun _ => by omega, ?_⟩
          refine aw_if rfl (fun h => ?_) (fun h => ?_)
          · have h94 : x.text = [94] ∧ a.kind = 4 ∧ a.text.length + d.text.length ≤ 64 := by
              simp [ew] at h; exact ⟨ht ▸ h.1.1, h.1.2, by omega⟩
            obtain ⟨h94, k4, hlt⟩ := h94
            refine aw_sr rfl ?_  -- r34
            simp only [go_sem, reduceIte, Nat.reduceEqDiff, Nat.reduceAdd, Nat.reduceMul, Nat.reduceSub, Nat.reduceLeDiff, Nat.reduceLT, reduceCtorEq, h10, h11, h2]
            refine ⟨by omega, ?_⟩
            refine aw_ret ⟨trivial, ?_⟩
            simp only [go_sem, reduceIte, Nat.reduceEqDiff, Nat.reduceAdd, Nat.reduceMul, Nat.reduceSub, Nat.reduceLeDiff, Nat.reduceLT, reduceCtorEq, resL, resOf, hget_hset_self h2]
            refine ⟨_, rfl, ?_, sub_hset_fresh hb2' hsB⟩
            rw [hf1, show twoF x a d = lit 4 0 (a.text ++ d.text) from by simp [twoF, h94, k4, hlt]]; exact vle_lit _ _ _
          have h94 : ¬ (a.kind = 4 ∧ x.text = [94] ∧ a.text.length + d.text.length ≤ 64) := fun ⟨g1, g2, g3⟩ => by
            rw [ht] at g2
            simp [ew, g1, g2] at h; omega
          refine aw_sr rfl ?_  -- r35
          simp only [go_sem, reduceIte, Nat.reduceEqDiff, Nat.reduceAdd, Nat.reduceMul, Nat.reduceSub, Nat.reduceLeDiff, Nat.reduceLT, reduceCtorEq, h10]
          refine aw_if rfl (fun h => ?_) (fun h => ?_)
          · have k2 : ¬ a.kind = 2 := by simpa using h
            refine aw_skip (hK7 _ _ ?_)
            refine aw_sr rfl ?_
            simp only [go_sem, reduceIte, Nat.reduceEqDiff, Nat.reduceAdd, Nat.reduceMul, Nat.reduceSub, Nat.reduceLeDiff, Nat.reduceLT, reduceCtorEq, m3, h2]
            refine aw_ret ⟨trivial, ?_⟩
            simp only [go_sem, reduceIte, Nat.reduceEqDiff, Nat.reduceAdd, Nat.reduceMul, Nat.reduceSub, Nat.reduceLeDiff, Nat.reduceLT, reduceCtorEq, resL, resOf, hget_hset_self h2]
            refine ⟨_, rfl, ?_, sub_hset_fresh hb2' hsB⟩
            rw [hf1, show twoF x a d = x from by simp [twoF, h61, if_neg h94, k2]]; exact Vle.refl _
          have k2 : a.kind = 2 := by simpa using h
          refine aw_sr rfl ?_  -- r36
          simp only [go_sem, reduceIte, Nat.reduceEqDiff, Nat.reduceAdd, Nat.reduceMul, Nat.reduceSub, Nat.reduceLeDiff, Nat.reduceLT, reduceCtorEq]
          refine aw_if rfl (fun h => ?_) (fun h => ?_)
          · have h43 : x.text = [43] := by rw [ht]; simpa using h
            refine aw_sr rfl ?_  -- r37
            simp only [go_sem, reduceIte, Nat.reduceEqDiff, Nat.reduceAdd, Nat.reduceMul, Nat.reduceSub, Nat.reduceLeDiff, Nat.reduceLT, reduceCtorEq, h10, h11]
            refine goA_q (q_number _) ?_
            simp only [go_sem, reduceIte, Nat.reduceEqDiff, Nat.reduceAdd, Nat.reduceMul, Nat.reduceSub, Nat.reduceLeDiff, Nat.reduceLT, reduceCtorEq, h10, h11, h2]
            refine aw_ret ⟨trivial, ?_⟩
            simp only [go_sem, reduceIte, Nat.reduceEqDiff, Nat.reduceAdd, Nat.reduceMul, Nat.reduceSub, Nat.reduceLeDiff, Nat.reduceLT, reduceCtorEq, resL, resOf, hget_hset_self h2]
            refine ⟨_, rfl, ?_, sub_hset_fresh hb2' hsB⟩
            rw [hf1, show twoF x a d = lit 2 (IntKind.i64.wrap (a.num + d.num)) [] from by simp [twoF, k2, h43]]; exact Vle.refl _
          have h43 : ¬ x.text = [43] := by rw [ht]; simpa using h
          refine aw_sr rfl ?_  -- r38
          simp only [go_sem, reduceIte, Nat.reduceEqDiff, Nat.reduceAdd, Nat.reduceMul, Nat.reduceSub, Nat.reduceLeDiff, Nat.reduceLT, reduceCtorEq]
          refine aw_if rfl (fun h => ?_) (fun h => ?_)
          · have h45 : x.text = [45] := by rw [ht]; simpa using h
            refine aw_sr rfl ?_  -- r39
            simp only [go_sem, reduceIte, Nat.reduceEqDiff, Nat.reduceAdd, Nat.reduceMul, Nat.reduceSub, Nat.reduceLeDiff, Nat.reduceLT, reduceCtorEq, h10, h11]
            refine goA_q (q_number _) ?_
            simp only [go_sem, reduceIte, Nat.reduceEqDiff, Nat.reduceAdd, Nat.reduceMul, Nat.reduceSub, Nat.reduceLeDiff, Nat.reduceLT, reduceCtorEq, h10, h11, h2]
            refine aw_ret ⟨trivial, ?_⟩
            simp only [go_sem, reduceIte, Nat.reduceEqDiff, Nat.reduceAdd, Nat.reduceMul, Nat.reduceSub, Nat.reduceLeDiff, Nat.reduceLT, reduceCtorEq, resL, resOf, hget_hset_self h2]
            refine ⟨_, rfl, ?_, sub_hset_fresh hb2' hsB⟩
            rw [hf1, show twoF x a d = lit 2 (IntKind.i64.wrap (a.num - d.num)) [] from by simp [twoF, k2, h45]]; exact Vle.refl _
          have h45 : ¬ x.text = [45] := by rw [ht]; simpa using h
          refine aw_sr rfl ?_  -- r40
          simp only [go_sem, reduceIte, Nat.reduceEqDiff, Nat.reduceAdd, Nat.reduceMul, Nat.reduceSub, Nat.reduceLeDiff, Nat.reduceLT, reduceCtorEq]
          refine aw_if rfl (fun h => ?_) (fun h => ?_)
          · have h42 : x.text = [42] := by rw [ht]; simpa using h
            refine aw_sr rfl ?_  -- r41
            simp only [go_sem, reduceIte, Nat.reduceEqDiff, Nat.reduceAdd, Nat.reduceMul, Nat.reduceSub, Nat.reduceLeDiff, Nat.reduceLT, reduceCtorEq, h10, h11]
            refine goA_q (q_number _) ?_
            simp only [go_sem, reduceIte, Nat.reduceEqDiff, Nat.reduceAdd, Nat.reduceMul, Nat.reduceSub, Nat.reduceLeDiff, Nat.reduceLT, reduceCtorEq, h10, h11, h2]
            refine aw_ret ⟨trivial, ?_⟩
            simp only [go_sem, reduceIte, Nat.reduceEqDiff, Nat.reduceAdd, Nat.reduceMul, Nat.reduceSub, Nat.reduceLeDiff, Nat.reduceLT, reduceCtorEq, resL, resOf, hget_hset_self h2]
            refine ⟨_, rfl, ?_, sub_hset_fresh hb2' hsB⟩
            rw [hf1, show twoF x a d = lit 2 (IntKind.i64.wrap (a.num * d.num)) [] from by simp [twoF, k2, h42]]; exact Vle.refl _
          have h42 : ¬ x.text = [42] := by rw [ht]; simpa using h
          refine aw_sr rfl ?_  -- r42
          simp only [go_sem, reduceIte, Nat.reduceEqDiff, Nat.reduceAdd, Nat.reduceMul, Nat.reduceSub, Nat.reduceLeDiff, Nat.reduceLT, reduceCtorEq, h11]
          refine aw_if rfl (fun h => ?_) (fun h => ?_)
          · have hq : x.text = [47] ∧ ¬ d.num = 0 := by rw [ht]; simpa using h
            obtain ⟨h47, hd0⟩ := hq
            refine aw_sr rfl ?_  -- r43
            simp only [go_sem, reduceIte, Nat.reduceEqDiff, Nat.reduceAdd, Nat.reduceMul, Nat.reduceSub, Nat.reduceLeDiff, Nat.reduceLT, reduceCtorEq, h10, h11]
            refine ⟨hd0, ?_⟩
            refine goA_q (q_number _) ?_
            simp only [go_sem, reduceIte, Nat.reduceEqDiff, Nat.reduceAdd, Nat.reduceMul, Nat.reduceSub, Nat.reduceLeDiff, Nat.reduceLT, reduceCtorEq, h10, h11, h2]
            refine aw_ret ⟨trivial, ?_⟩
            simp only [go_sem, reduceIte, Nat.reduceEqDiff, Nat.reduceAdd, Nat.reduceMul, Nat.reduceSub, Nat.reduceLeDiff, Nat.reduceLT, reduceCtorEq, resL, resOf, hget_hset_self h2]
            refine ⟨_, rfl, ?_, sub_hset_fresh hb2' hsB⟩
            rw [hf1, show twoF x a d = lit 2 (IntKind.i64.wrap (a.num.tdiv d.num)) [] from by simp [twoF, k2, h47, hd0]]; exact Vle.refl _
          have h47 : ¬ (x.text = [47] ∧ ¬ d.num = 0) := by rw [ht]; simpa using h
          refine aw_sr rfl ?_  -- r44
          simp only [go_sem, reduceIte, Nat.reduceEqDiff, Nat.reduceAdd, Nat.reduceMul, Nat.reduceSub, Nat.reduceLeDiff, Nat.reduceLT, reduceCtorEq, h11]
          refine aw_if rfl (fun h => ?_) (fun h => ?_)
          · have hq : x.text = [37] ∧ ¬ d.num = 0 := by rw [ht]; simpa using h
            obtain ⟨h37, hd0⟩ := hq
            refine aw_sr rfl ?_  -- r45
            simp only [go_sem, reduceIte, Nat.reduceEqDiff, Nat.reduceAdd, Nat.reduceMul, Nat.reduceSub, Nat.reduceLeDiff, Nat.reduceLT, reduceCtorEq, h10, h11]
            refine ⟨hd0, ?_⟩
            refine goA_q (q_number _) ?_
            simp only [go_sem, reduceIte, Nat.reduceEqDiff, Nat.reduceAdd, Nat.reduceMul, Nat.reduceSub, Nat.reduceLeDiff, Nat.reduceLT, reduceCtorEq, h10, h11, h2]
            refine aw_ret ⟨trivial, ?_⟩
            simp only [go_sem, reduceIte, Nat.reduceEqDiff, Nat.reduceAdd, Nat.reduceMul, Nat.reduceSub, Nat.reduceLeDiff, Nat.reduceLT, reduceCtorEq, resL, resOf, hget_hset_self h2]
            refine ⟨_, rfl, ?_, sub_hset_fresh hb2' hsB⟩
            rw [hf1, show twoF x a d = lit 2 (a.num.tmod d.num) [] from by simp [twoF, k2, h37, hd0]]; exact Vle.refl _
          have h37 : ¬ (x.text = [37] ∧ ¬ d.num = 0) := by rw [ht]; simpa using h
          refine aw_sr rfl ?_  -- r46
          simp only [go_sem, reduceIte, Nat.reduceEqDiff, Nat.reduceAdd, Nat.reduceMul, Nat.reduceSub, Nat.reduceLeDiff, Nat.reduceLT, reduceCtorEq]
          refine aw_if rfl (fun h => ?_) (fun h => ?_)
          · have h60 : x.text = [60] := by rw [ht]; simpa using h
            refine aw_sr rfl ?_  -- r47
            simp only [go_sem, reduceIte, Nat.reduceEqDiff, Nat.reduceAdd, Nat.reduceMul, Nat.reduceSub, Nat.reduceLeDiff, Nat.reduceLT, reduceCtorEq, h10, h11]
            refine goA_q (q_flag _) ?_
            simp only [go_sem, reduceIte, Nat.reduceEqDiff, Nat.reduceAdd, Nat.reduceMul, Nat.reduceSub, Nat.reduceLeDiff, Nat.reduceLT, reduceCtorEq, h10, h11, h2]
            refine aw_ret ⟨trivial, ?_⟩
            simp only [go_sem, reduceIte, Nat.reduceEqDiff, Nat.reduceAdd, Nat.reduceMul, Nat.reduceSub, Nat.reduceLeDiff, Nat.reduceLT, reduceCtorEq, resL, resOf, hget_hset_self h2]
            refine ⟨_, rfl, ?_, sub_hset_fresh hb2' hsB⟩
            rw [hf1, show twoF x a d = truthF (decide (a.num < d.num)) from by simp [twoF, k2, h60]]; exact Vle.refl _
          have h60 : ¬ x.text = [60] := by rw [ht]; simpa using h
          refine aw_skip (hK7 _ _ ?_)
          refine aw_sr rfl ?_
          simp only [go_sem, reduceIte, Nat.reduceEqDiff, Nat.reduceAdd, Nat.reduceMul, Nat.reduceSub, Nat.reduceLeDiff, Nat.reduceLT, reduceCtorEq, m3, h2]
          refine aw_ret ⟨trivial, ?_⟩
          simp only [go_sem, reduceIte, Nat.reduceEqDiff, Nat.reduceAdd, Nat.reduceMul, Nat.reduceSub, Nat.reduceLeDiff, Nat.reduceLT, reduceCtorEq, resL, resOf, hget_hset_self h2]
          refine ⟨_, rfl, ?_, sub_hset_fresh hb2' hsB⟩
          rw [hf1, show twoF x a d = x from by unfold twoF; (repeat' split) <;> simp_all]; exact Vle.refl _
      · have h8 : g8 x = false := by simp [g8, hxa]
        have h9 : g9 x = false := by simp [g9, hxa]
        have ne1 : decide (((l2.length + 1 + 1 + 1 : Nat) : Int) = 1) = false := decide_eq_false (by omega)
        have ne2 : decide (((l2.length + 1 + 1 + 1 : Nat) : Int) ≠ 2) = true := decide_eq_true (by omega)
        refine aw_sr rfl ?_  -- r24
        simp only [go_sem, reduceIte, Nat.reduceEqDiff, Nat.reduceAdd, Nat.reduceMul, Nat.reduceSub, Nat.reduceLeDiff, Nat.reduceLT, reduceCtorEq, m3, h1, h10, hxa, eEx_eq, List.map_cons, List.map_nil, List.length_cons, List.length_nil, ne1, ne2, true_imp_iff, false_imp_iff]
        repeat' first
          | (refine goG_no fun v => ?_
             simp only [go_sem, reduceIte, Nat.reduceEqDiff, Nat.reduceAdd, Nat.reduceMul, Nat.reduceSub, Nat.reduceLeDiff, Nat.reduceLT, reduceCtorEq, m3, h1, h10, hxa, eEx_eq, List.map_cons, List.map_nil, List.length_cons, List.length_nil, ne1, ne2, true_imp_iff, false_imp_iff])
          | (refine goQg_no fun v => ?_
             simp only [go_sem, reduceIte, Nat.reduceEqDiff, Nat.reduceAdd, Nat.reduceMul, Nat.reduceSub, Nat.reduceLeDiff, Nat.reduceLT, reduceCtorEq, m3, h1, h10, hxa, eEx_eq, List.map_cons, List.map_nil, List.length_cons, List.length_nil, ne1, ne2, true_imp_iff, false_imp_iff])
          | (refine goH_no fun v => ?_
             simp only [go_sem, reduceIte, Nat.reduceEqDiff, Nat.reduceAdd, Nat.reduceMul, Nat.reduceSub, Nat.reduceLeDiff, Nat.reduceLT, reduceCtorEq, m3, h1, h10, hxa, eEx_eq, List.map_cons, List.map_nil, List.length_cons, List.length_nil, ne1, ne2, true_imp_iff, false_imp_iff])
        refine aw_if rfl (fun h => by simp at h) (fun h => ?_)
        refine aw_skip (hK5 _ _ ?_)
        refine aw_seq fun K6 hK6 => ?_
        refine aw_srd [(0,true),(1,true),(2,true),(3,true),(4,true),(5,true),(6,true),(7,true),(8,true),(9,true),(10,true),(11,true),(12,true),(13,true),(14,true),(15,true),(16,true),(17,true),(18,true)] mixed rfl (by kernel_rfl) ?_  -- r26
        simp only [go_sem, reduceIte, Nat.reduceEqDiff, Nat.reduceAdd, Nat.reduceMul, Nat.reduceSub, Nat.reduceLeDiff, Nat.reduceLT, reduceCtorEq, m3, h1, h10, hxa, eEx_eq, List.map_cons, List.map_nil, List.length_cons, List.length_nil, ne1, ne2, true_imp_iff, false_imp_iff]
        repeat' first
          | (refine goG_no fun v => ?_
             simp only [go_sem, reduceIte, Nat.reduceEqDiff, Nat.reduceAdd, Nat.reduceMul, Nat.reduceSub, Nat.reduceLeDiff, Nat.reduceLT, reduceCtorEq, m3, h1, h10, hxa, eEx_eq, List.map_cons, List.map_nil, List.length_cons, List.length_nil, ne1, ne2, true_imp_iff, false_imp_iff])
          | (refine goQg_no fun v => ?_
             simp only [go_sem, reduceIte, Nat.reduceEqDiff, Nat.reduceAdd, Nat.reduceMul, Nat.reduceSub, Nat.reduceLeDiff, Nat.reduceLT, reduceCtorEq, m3, h1, h10, hxa, eEx_eq, List.map_cons, List.map_nil, List.length_cons, List.length_nil, ne1, ne2, true_imp_iff, false_imp_iff])
          | (refine goH_no fun v => ?_
             simp only [go_sem, reduceIte, Nat.reduceEqDiff, Nat.reduceAdd, Nat.reduceMul, Nat.reduceSub, Nat.reduceLeDiff, Nat.reduceLT, reduceCtorEq, m3, h1, h10, hxa, eEx_eq, List.map_cons, List.map_nil, List.length_cons, List.length_nil, ne1, ne2, true_imp_iff, false_imp_iff])
        refine aw_if rfl (fun h => ?_) (fun h => by simp at h)
        refine aw_sr rfl ?_
        simp only [go_sem, reduceIte, Nat.reduceEqDiff, Nat.reduceAdd, Nat.reduceMul, Nat.reduceSub, Nat.reduceLeDiff, Nat.reduceLT, reduceCtorEq, m3, h2]
        refine aw_ret ⟨trivial, ?_⟩
        simp only [go_sem, reduceIte, Nat.reduceEqDiff, Nat.reduceAdd, Nat.reduceMul, Nat.reduceSub, Nat.reduceLeDiff, Nat.reduceLT, reduceCtorEq, resL, resOf, hget_hset_self h2]
        refine ⟨_, rfl, ?_, sub_hset_fresh hb2' hsB⟩
        rw [fold1_0 hg7 h8 h9]; exact Vle.refl _
  · have n8 : decide (e.kind ≠ 8) = true := decide_eq_true (hk ▸ k8)
    have n8' : ¬ e.kind = 8 := hk ▸ k8
    refine aw_sr rfl ?_  -- r21
    simp only [go_sem, reduceIte, Nat.reduceEqDiff, Nat.reduceAdd, Nat.reduceMul, Nat.reduceSub, Nat.reduceLeDiff, Nat.reduceLT, reduceCtorEq, h1, m3, n8, n8', not_false_eq_true, decide_true, true_imp_iff, false_imp_iff]
    repeat' first
      | (refine goG_no fun v => ?_
         simp only [go_sem, reduceIte, Nat.reduceEqDiff, Nat.reduceAdd, Nat.reduceMul, Nat.reduceSub, Nat.reduceLeDiff, Nat.reduceLT, reduceCtorEq, h1, m3, n8, n8', not_false_eq_true, decide_true, true_imp_iff, false_imp_iff])
      | (refine goQg_no fun v => ?_
         simp only [go_sem, reduceIte, Nat.reduceEqDiff, Nat.reduceAdd, Nat.reduceMul, Nat.reduceSub, Nat.reduceLeDiff, Nat.reduceLT, reduceCtorEq, h1, m3, n8, n8', not_false_eq_true, decide_true, true_imp_iff, false_imp_iff])
      | (refine goH_no fun v => ?_
         simp only [go_sem, reduceIte, Nat.reduceEqDiff, Nat.reduceAdd, Nat.reduceMul, Nat.reduceSub, Nat.reduceLeDiff, Nat.reduceLT, reduceCtorEq, h1, m3, n8, n8', not_false_eq_true, decide_true, true_imp_iff, false_imp_iff])
    refine aw_if rfl (fun h => ?_) (fun h => by simp at h)
    refine aw_sr rfl ?_
    simp only [go_sem, reduceIte, Nat.reduceEqDiff, Nat.reduceAdd, Nat.reduceMul, Nat.reduceSub, Nat.reduceLeDiff, Nat.reduceLT, reduceCtorEq, m3, h2]
    refine aw_ret ⟨trivial, ?_⟩
    simp only [go_sem, reduceIte, Nat.reduceEqDiff, Nat.reduceAdd, Nat.reduceMul, Nat.reduceSub, Nat.reduceLeDiff, Nat.reduceLT, reduceCtorEq, resL, resOf, hget_hset_self h2]
    refine ⟨_, rfl, ?_, sub_hset_fresh hb2' hsB⟩
    rw [fold1_0 hg7 (g8_off k8) (g9_off k8)]; exact Vle.refl _
end Go.Proofs.Ytlgfffngojlffaa

/- Types, patterns, expressions that are the same up to what is nil. No conditions but sizes. -/
set_option linter.unusedSimpArgs false
set_option linter.unusedVariables false
namespace Go.Proofs.Ytlgfffngojlffaa
open Go.Proofs.YtlgfffngojlffaaV
set_option maxHeartbeats 400000
set_option maxRecDepth 100000
theorem q_EqTyps (F : FuncId) (xs ys : List Typ) (n1 n2 : Bool) (t1 t2 : Tag) (hx : (xs.length : Int) ≤ 9223372036854775807) (hl : xs.length = ys.length)
    (hF : ∀ i (h1 : i < xs.length) (h2 : i < ys.length), Quiet Try.prog F [.agg (cTyp xs[i]), .agg (cTyp ys[i])] (.bool true)) :
    Quiet Try.prog 30 [.sl (xs.map eTyp) n1 t1, .sl (ys.map eTyp) n2 t2, .func (.func F) [] []] (.bool true) := by
  refine Quiet.weak fun G => ?_
  refine acall_body (rs := [.tmp 6]) Try.func30 rfl rfl Try.ntmps30 (by kernel_rfl) (Nat.le_of_ble_eq_true rfl) ?_
  refine aw_sr rfl ?_
  simp only [go_sem, reduceIte, Nat.reduceEqDiff, Nat.reduceAdd, Nat.reduceMul, Nat.reduceSub, Nat.reduceLeDiff, Nat.reduceLT, reduceCtorEq]
  refine aw_seq fun K1 hK1 => ?_
  refine aw_sr rfl ?_
  simp only [go_sem, reduceIte, Nat.reduceEqDiff, Nat.reduceAdd, Nat.reduceMul, Nat.reduceSub, Nat.reduceLeDiff, Nat.reduceLT, reduceCtorEq]
  refine aw_if rfl (fun h => ?_) (fun h => ?_)
  · have h : ¬ xs.length = ys.length := by simpa [Int.natCast_inj] using h
    exact absurd hl h
  · refine aw_skip (hK1 _ _ ?_)
    refine aw_seq fun K2 hK2 => ?_
    refine aw_sr rfl ?_
    simp only [go_sem, reduceIte, Nat.reduceEqDiff, Nat.reduceAdd, Nat.reduceMul, Nat.reduceSub, Nat.reduceLeDiff, Nat.reduceLT, reduceCtorEq]
    refine aw_range xs.length (S := Unit) (fun _ _ => [(15, .sl (xs.map eTyp) n1 t1), (1, .sl (ys.map eTyp) n2 t2), (2, .func (.func F) [] [])]) (fun _ _ => G) (fun i _ => True) () hx ?_ (fun _ _ h => h) trivial rfl (fun _ _ => rfl) ?_ ?_ (by decide)
    · simp only [go_sem, reduceIte, Nat.reduceEqDiff, Nat.reduceAdd, Nat.reduceMul, Nat.reduceSub, Nat.reduceLeDiff, Nat.reduceLT, reduceCtorEq, Int.natCast_zero]
    · intro i _ hi he
      have hi2 : i < ys.length := hl ▸ hi
      refine aw_sr rfl ?_
      simp only [go_sem, reduceIte, Nat.reduceEqDiff, Nat.reduceAdd, Nat.reduceMul, Nat.reduceSub, Nat.reduceLeDiff, Nat.reduceLT, reduceCtorEq, getD_map hi, getD_map hi2, eTyp_eq]
      refine ⟨⟨by omega, by omega, wid_map (g := eTyp) (fun _ => by simp [eTyp_eq]) _⟩, fun b hb => ?_⟩
      refine aw_sr rfl ?_
      simp only [go_sem, reduceIte, Nat.reduceEqDiff, Nat.reduceAdd, Nat.reduceMul, Nat.reduceSub, Nat.reduceLeDiff, Nat.reduceLT, reduceCtorEq, getD_map hi, getD_map hi2, eTyp_eq]
      refine ⟨⟨by omega, by omega, wid_map (g := eTyp) (fun _ => by simp [eTyp_eq]) _⟩, fun b2 hb2 => ?_⟩
      have hne : ¬ b2 = b := by intro e; subst e; rw [hget_cons, if_pos rfl] at hb2; cases hb2
      refine aw_sr rfl ?_
      simp only [go_sem, reduceIte, Nat.reduceEqDiff, Nat.reduceAdd, Nat.reduceMul, Nat.reduceSub, Nat.reduceLeDiff, Nat.reduceLT, reduceCtorEq, hget_cons, hne]
      have hq := hF i hi hi2
      refine goA_q hq ?_
      simp only [go_sem, reduceIte, Nat.reduceEqDiff, Nat.reduceAdd, Nat.reduceMul, Nat.reduceSub, Nat.reduceLeDiff, Nat.reduceLT, reduceCtorEq]
      refine aw_if rfl (fun h => ?_) (fun h => ?_)
      · simp at h
      · refine aw_skip ⟨(), ?_, fun b' o' h => hsub_at hb2 _ _ (hsub_at hb _ _ h)⟩
        simp only [go_sem, reduceIte, Nat.reduceEqDiff, Nat.reduceAdd, Nat.reduceMul, Nat.reduceSub, Nat.reduceLeDiff, Nat.reduceLT, reduceCtorEq]
    · intro _ he
      refine hK2 _ _ ?_
      refine aw_sr rfl ?_
      simp only [go_sem, reduceIte, Nat.reduceEqDiff, Nat.reduceAdd, Nat.reduceMul, Nat.reduceSub, Nat.reduceLeDiff, Nat.reduceLT, reduceCtorEq]
      refine aw_ret ⟨trivial, _, rfl, ?_, fun _ _ h => h⟩
      exact Vle.refl _
theorem q_EqPats (F : FuncId) (xs ys : List Pat) (n1 n2 : Bool) (t1 t2 : Tag) (hx : (xs.length : Int) ≤ 9223372036854775807) (hl : xs.length = ys.length)
    (hF : ∀ i (h1 : i < xs.length) (h2 : i < ys.length), Quiet Try.prog F [.agg (cPat xs[i]), .agg (cPat ys[i])] (.bool true)) :
    Quiet Try.prog 260 [.sl (xs.map ePat) n1 t1, .sl (ys.map ePat) n2 t2, .func (.func F) [] []] (.bool true) := by
  refine Quiet.weak fun G => ?_
  refine acall_body (rs := [.tmp 6]) Try.func260 rfl rfl Try.ntmps260 (by kernel_rfl) (Nat.le_of_ble_eq_true rfl) ?_
  refine aw_sr rfl ?_
  simp only [go_sem, reduceIte, Nat.reduceEqDiff, Nat.reduceAdd, Nat.reduceMul, Nat.reduceSub, Nat.reduceLeDiff, Nat.reduceLT, reduceCtorEq]
  refine aw_seq fun K1 hK1 => ?_
  refine aw_sr rfl ?_
  simp only [go_sem, reduceIte, Nat.reduceEqDiff, Nat.reduceAdd, Nat.reduceMul, Nat.reduceSub, Nat.reduceLeDiff, Nat.reduceLT, reduceCtorEq]
  refine aw_if rfl (fun h => ?_) (fun h => ?_)
  · have h : ¬ xs.length = ys.length := by simpa [Int.natCast_inj] using h
    exact absurd hl h
  · refine aw_skip (hK1 _ _ ?_)
    refine aw_seq fun K2 hK2 => ?_
    refine aw_sr rfl ?_
    simp only [go_sem, reduceIte, Nat.reduceEqDiff, Nat.reduceAdd, Nat.reduceMul, Nat.reduceSub, Nat.reduceLeDiff, Nat.reduceLT, reduceCtorEq]
    refine aw_range xs.length (S := Unit) (fun _ _ => [(15, .sl (xs.map ePat) n1 t1), (1, .sl (ys.map ePat) n2 t2), (2, .func (.func F) [] [])]) (fun _ _ => G) (fun i _ => True) () hx ?_ (fun _ _ h => h) trivial rfl (fun _ _ => rfl) ?_ ?_ (by decide)
    · simp only [go_sem, reduceIte, Nat.reduceEqDiff, Nat.reduceAdd, Nat.reduceMul, Nat.reduceSub, Nat.reduceLeDiff, Nat.reduceLT, reduceCtorEq, Int.natCast_zero]
    · intro i _ hi he
      have hi2 : i < ys.length := hl ▸ hi
      refine aw_sr rfl ?_
      simp only [go_sem, reduceIte, Nat.reduceEqDiff, Nat.reduceAdd, Nat.reduceMul, Nat.reduceSub, Nat.reduceLeDiff, Nat.reduceLT, reduceCtorEq, getD_map hi, getD_map hi2, ePat_eq]
      refine ⟨⟨by omega, by omega, wid_map (g := ePat) (fun _ => by simp [ePat_eq]) _⟩, fun b hb => ?_⟩
      refine aw_sr rfl ?_
      simp only [go_sem, reduceIte, Nat.reduceEqDiff, Nat.reduceAdd, Nat.reduceMul, Nat.reduceSub, Nat.reduceLeDiff, Nat.reduceLT, reduceCtorEq, getD_map hi, getD_map hi2, ePat_eq]
      refine ⟨⟨by omega, by omega, wid_map (g := ePat) (fun _ => by simp [ePat_eq]) _⟩, fun b2 hb2 => ?_⟩
      have hne : ¬ b2 = b := by intro e; subst e; rw [hget_cons, if_pos rfl] at hb2; cases hb2
      refine aw_sr rfl ?_
      simp only [go_sem, reduceIte, Nat.reduceEqDiff, Nat.reduceAdd, Nat.reduceMul, Nat.reduceSub, Nat.reduceLeDiff, Nat.reduceLT, reduceCtorEq, hget_cons, hne]
      have hq := hF i hi hi2
      refine goA_q hq ?_
      simp only [go_sem, reduceIte, Nat.reduceEqDiff, Nat.reduceAdd, Nat.reduceMul, Nat.reduceSub, Nat.reduceLeDiff, Nat.reduceLT, reduceCtorEq]
      refine aw_if rfl (fun h => ?_) (fun h => ?_)
      · simp at h
      · refine aw_skip ⟨(), ?_, fun b' o' h => hsub_at hb2 _ _ (hsub_at hb _ _ h)⟩
        simp only [go_sem, reduceIte, Nat.reduceEqDiff, Nat.reduceAdd, Nat.reduceMul, Nat.reduceSub, Nat.reduceLeDiff, Nat.reduceLT, reduceCtorEq]
    · intro _ he
      refine hK2 _ _ ?_
      refine aw_sr rfl ?_
      simp only [go_sem, reduceIte, Nat.reduceEqDiff, Nat.reduceAdd, Nat.reduceMul, Nat.reduceSub, Nat.reduceLeDiff, Nat.reduceLT, reduceCtorEq]
      refine aw_ret ⟨trivial, _, rfl, ?_, fun _ _ h => h⟩
      exact Vle.refl _
theorem q_EqExs (F : FuncId) (xs ys : List Ex) (n1 n2 : Bool) (t1 t2 : Tag) (hx : (xs.length : Int) ≤ 9223372036854775807) (hl : xs.length = ys.length)
    (hF : ∀ i (h1 : i < xs.length) (h2 : i < ys.length), Quiet Try.prog F [.agg (cEx xs[i]), .agg (cEx ys[i])] (.bool true)) :
    Quiet Try.prog 112 [.sl (xs.map eEx) n1 t1, .sl (ys.map eEx) n2 t2, .func (.func F) [] []] (.bool true) := by
  refine Quiet.weak fun G => ?_
  refine acall_body (rs := [.tmp 6]) Try.func112 rfl rfl Try.ntmps112 (by kernel_rfl) (Nat.le_of_ble_eq_true rfl) ?_
  refine aw_sr rfl ?_
  simp only [go_sem, reduceIte, Nat.reduceEqDiff, Nat.reduceAdd, Nat.reduceMul, Nat.reduceSub, Nat.reduceLeDiff, Nat.reduceLT, reduceCtorEq]
  refine aw_seq fun K1 hK1 => ?_
  refine aw_sr rfl ?_
  simp only [go_sem, reduceIte, Nat.reduceEqDiff, Nat.reduceAdd, Nat.reduceMul, Nat.reduceSub, Nat.reduceLeDiff, Nat.reduceLT, reduceCtorEq]
  refine aw_if rfl (fun h => ?_) (fun h => ?_)
  · have h : ¬ xs.length = ys.length := by simpa [Int.natCast_inj] using h
    exact absurd hl h
  · refine aw_skip (hK1 _ _ ?_)
    refine aw_seq fun K2 hK2 => ?_
    refine aw_sr rfl ?_
    simp only [go_sem, reduceIte, Nat.reduceEqDiff, Nat.reduceAdd, Nat.reduceMul, Nat.reduceSub, Nat.reduceLeDiff, Nat.reduceLT, reduceCtorEq]
    refine aw_range xs.length (S := Unit) (fun _ _ => [(15, .sl (xs.map eEx) n1 t1), (1, .sl (ys.map eEx) n2 t2), (2, .func (.func F) [] [])]) (fun _ _ => G) (fun i _ => True) () hx ?_ (fun _ _ h => h) trivial rfl (fun _ _ => rfl) ?_ ?_ (by decide)
    · simp only [go_sem, reduceIte, Nat.reduceEqDiff, Nat.reduceAdd, Nat.reduceMul, Nat.reduceSub, Nat.reduceLeDiff, Nat.reduceLT, reduceCtorEq, Int.natCast_zero]
    · intro i _ hi he
      have hi2 : i < ys.length := hl ▸ hi
      refine aw_sr rfl ?_
      simp only [go_sem, reduceIte, Nat.reduceEqDiff, Nat.reduceAdd, Nat.reduceMul, Nat.reduceSub, Nat.reduceLeDiff, Nat.reduceLT, reduceCtorEq, getD_map hi, getD_map hi2, eEx_eq]
      refine ⟨⟨by omega, by omega, wid_map (g := eEx) (fun _ => by simp [eEx_eq]) _⟩, fun b hb => ?_⟩
      refine aw_sr rfl ?_
      simp only [go_sem, reduceIte, Nat.reduceEqDiff, Nat.reduceAdd, Nat.reduceMul, Nat.reduceSub, Nat.reduceLeDiff, Nat.reduceLT, reduceCtorEq, getD_map hi, getD_map hi2, eEx_eq]
      refine ⟨⟨by omega, by omega, wid_map (g := eEx) (fun _ => by simp [eEx_eq]) _⟩, fun b2 hb2 => ?_⟩
      have hne : ¬ b2 = b := by intro e; subst e; rw [hget_cons, if_pos rfl] at hb2; cases hb2
      refine aw_sr rfl ?_
      simp only [go_sem, reduceIte, Nat.reduceEqDiff, Nat.reduceAdd, Nat.reduceMul, Nat.reduceSub, Nat.reduceLeDiff, Nat.reduceLT, reduceCtorEq, hget_cons, hne]
      have hq := hF i hi hi2
      refine goA_q hq ?_
      simp only [go_sem, reduceIte, Nat.reduceEqDiff, Nat.reduceAdd, Nat.reduceMul, Nat.reduceSub, Nat.reduceLeDiff, Nat.reduceLT, reduceCtorEq]
      refine aw_if rfl (fun h => ?_) (fun h => ?_)
      · simp at h
      · refine aw_skip ⟨(), ?_, fun b' o' h => hsub_at hb2 _ _ (hsub_at hb _ _ h)⟩
        simp only [go_sem, reduceIte, Nat.reduceEqDiff, Nat.reduceAdd, Nat.reduceMul, Nat.reduceSub, Nat.reduceLeDiff, Nat.reduceLT, reduceCtorEq]
    · intro _ he
      refine hK2 _ _ ?_
      refine aw_sr rfl ?_
      simp only [go_sem, reduceIte, Nat.reduceEqDiff, Nat.reduceAdd, Nat.reduceMul, Nat.reduceSub, Nat.reduceLeDiff, Nat.reduceLT, reduceCtorEq]
      refine aw_ret ⟨trivial, _, rfl, ?_, fun _ _ h => h⟩
      exact Vle.refl _
abbrev cArm (m : Arm) : List V := cPat m.pat ++ cEx m.body
theorem eArm_c (m : Arm) : eArm m = cArm m := eArm_eq m
theorem q_EqArms (F : FuncId) (xs ys : List Arm) (n1 n2 : Bool) (t1 t2 : Tag) (hx : (xs.length : Int) ≤ 9223372036854775807) (hl : xs.length = ys.length)
    (hF : ∀ i (h1 : i < xs.length) (h2 : i < ys.length), Quiet Try.prog F [.agg (cArm xs[i]), .agg (cArm ys[i])] (.bool true)) :
    Quiet Try.prog 113 [.sl (xs.map eArm) n1 t1, .sl (ys.map eArm) n2 t2, .func (.func F) [] []] (.bool true) := by
  refine Quiet.weak fun G => ?_
  refine acall_body (rs := [.tmp 6]) Try.func113 rfl rfl Try.ntmps113 (by kernel_rfl) (Nat.le_of_ble_eq_true rfl) ?_
  refine aw_sr rfl ?_
  simp only [go_sem, reduceIte, Nat.reduceEqDiff, Nat.reduceAdd, Nat.reduceMul, Nat.reduceSub, Nat.reduceLeDiff, Nat.reduceLT, reduceCtorEq]
  refine aw_seq fun K1 hK1 => ?_
  refine aw_sr rfl ?_
  simp only [go_sem, reduceIte, Nat.reduceEqDiff, Nat.reduceAdd, Nat.reduceMul, Nat.reduceSub, Nat.reduceLeDiff, Nat.reduceLT, reduceCtorEq]
  refine aw_if rfl (fun h => ?_) (fun h => ?_)
  · have h : ¬ xs.length = ys.length := by simpa [Int.natCast_inj] using h
    exact absurd hl h
  · refine aw_skip (hK1 _ _ ?_)
    refine aw_seq fun K2 hK2 => ?_
    refine aw_sr rfl ?_
    simp only [go_sem, reduceIte, Nat.reduceEqDiff, Nat.reduceAdd, Nat.reduceMul, Nat.reduceSub, Nat.reduceLeDiff, Nat.reduceLT, reduceCtorEq]
    refine aw_range xs.length (S := Unit) (fun _ _ => [(15, .sl (xs.map eArm) n1 t1), (1, .sl (ys.map eArm) n2 t2), (2, .func (.func F) [] [])]) (fun _ _ => G) (fun i _ => True) () hx ?_ (fun _ _ h => h) trivial rfl (fun _ _ => rfl) ?_ ?_ (by decide)
    · simp only [go_sem, reduceIte, Nat.reduceEqDiff, Nat.reduceAdd, Nat.reduceMul, Nat.reduceSub, Nat.reduceLeDiff, Nat.reduceLT, reduceCtorEq, Int.natCast_zero]
    · intro i _ hi he
      have hi2 : i < ys.length := hl ▸ hi
      refine aw_sr rfl ?_
      simp only [go_sem, reduceIte, Nat.reduceEqDiff, Nat.reduceAdd, Nat.reduceMul, Nat.reduceSub, Nat.reduceLeDiff, Nat.reduceLT, reduceCtorEq, getD_map hi, getD_map hi2, eArm_c]
      refine ⟨⟨by omega, by omega, wid_map (g := eArm) (fun _ => by simp [eArm_c]) _⟩, fun b hb => ?_⟩
      refine aw_sr rfl ?_
      simp only [go_sem, reduceIte, Nat.reduceEqDiff, Nat.reduceAdd, Nat.reduceMul, Nat.reduceSub, Nat.reduceLeDiff, Nat.reduceLT, reduceCtorEq, getD_map hi, getD_map hi2, eArm_c]
      refine ⟨⟨by omega, by omega, wid_map (g := eArm) (fun _ => by simp [eArm_c]) _⟩, fun b2 hb2 => ?_⟩
      have hne : ¬ b2 = b := by intro e; subst e; rw [hget_cons, if_pos rfl] at hb2; cases hb2
      refine aw_sr rfl ?_
      simp only [go_sem, reduceIte, Nat.reduceEqDiff, Nat.reduceAdd, Nat.reduceMul, Nat.reduceSub, Nat.reduceLeDiff, Nat.reduceLT, reduceCtorEq, hget_cons, hne]
      have hq := hF i hi hi2
      refine goA_q hq ?_
      simp only [go_sem, reduceIte, Nat.reduceEqDiff, Nat.reduceAdd, Nat.reduceMul, Nat.reduceSub, Nat.reduceLeDiff, Nat.reduceLT, reduceCtorEq]
      refine aw_if rfl (fun h => ?_) (fun h => ?_)
      · simp at h
      · refine aw_skip ⟨(), ?_, fun b' o' h => hsub_at hb2 _ _ (hsub_at hb _ _ h)⟩
        simp only [go_sem, reduceIte, Nat.reduceEqDiff, Nat.reduceAdd, Nat.reduceMul, Nat.reduceSub, Nat.reduceLeDiff, Nat.reduceLT, reduceCtorEq]
    · intro _ he
      refine hK2 _ _ ?_
      refine aw_sr rfl ?_
      simp only [go_sem, reduceIte, Nat.reduceEqDiff, Nat.reduceAdd, Nat.reduceMul, Nat.reduceSub, Nat.reduceLeDiff, Nat.reduceLT, reduceCtorEq]
      refine aw_ret ⟨trivial, _, rfl, ?_, fun _ _ h => h⟩
      exact Vle.refl _
theorem q_EqNms (xs ys : List (List UInt8)) (n1 n2 : Bool) (t1 t2 : Tag) (hx : (xs.length : Int) ≤ 9223372036854775807) : Quiet Try.prog 29 [.sl (xs.map eNm) n1 t1, .sl (ys.map eNm) n2 t2] (.bool (decide (xs = ys))) := by
  intro G
  refine acall_body (rs := [.tmp 4]) Try.func29 rfl rfl Try.ntmps29 (by kernel_rfl) (Nat.le_of_ble_eq_true rfl) ?_
  refine aw_sr rfl ?_
  simp only [go_sem, reduceIte, Nat.reduceEqDiff, Nat.reduceAdd, Nat.reduceMul, Nat.reduceSub, Nat.reduceLeDiff, Nat.reduceLT, reduceCtorEq]
  refine aw_seq fun K2 hK2 => ?_
  refine aw_sr rfl ?_
  simp only [go_sem, reduceIte, Nat.reduceEqDiff, Nat.reduceAdd, Nat.reduceMul, Nat.reduceSub, Nat.reduceLeDiff, Nat.reduceLT, reduceCtorEq]
  refine aw_if rfl (fun h => ?_) (fun h => ?_)
  · refine aw_sr rfl ?_
    simp only [go_sem, reduceIte, Nat.reduceEqDiff, Nat.reduceAdd, Nat.reduceMul, Nat.reduceSub, Nat.reduceLeDiff, Nat.reduceLT, reduceCtorEq]
    refine aw_ret ⟨trivial, _, rfl, ?_⟩
    simp only [decide_eq_true_eq, ne_eq, Int.natCast_inj] at h
    refine ⟨?_, rfl⟩
    rw [decide_eq_false (fun e => h (by rw [e]))]
    rfl
  · refine aw_skip (hK2 _ _ ?_)
    have hl : xs.length = ys.length := by simpa [Int.natCast_inj] using h
    refine aw_seq fun K3 hK3 => ?_
    refine aw_sr rfl ?_
    simp only [go_sem, reduceIte, Nat.reduceEqDiff, Nat.reduceAdd, Nat.reduceMul, Nat.reduceSub, Nat.reduceLeDiff, Nat.reduceLT, reduceCtorEq]
    refine aw_range xs.length (S := Unit) (fun _ _ => [(0, .sl (xs.map eNm) n1 t1), (1, .sl (ys.map eNm) n2 t2)]) (fun _ _ => G) (fun i _ => xs.take i = ys.take i) () hx ?_ (fun _ _ h => h) rfl rfl (fun _ _ => rfl) ?_ ?_ (by decide)
    · simp only [go_sem, reduceIte, Nat.reduceEqDiff, Nat.reduceAdd, Nat.reduceMul, Nat.reduceSub, Nat.reduceLeDiff, Nat.reduceLT, reduceCtorEq]
    · intro i _ hi he
      refine aw_sr rfl ?_
      simp only [go_sem, reduceIte, Nat.reduceEqDiff, Nat.reduceAdd, Nat.reduceMul, Nat.reduceSub, Nat.reduceLeDiff, Nat.reduceLT, reduceCtorEq]
      refine aw_srd [(0,true),(1,true),(2,true),(3,true),(4,true),(5,true),(6,true),(7,true),(8,true)] mixed rfl (by kernel_rfl) ?_
      simp only [go_sem, reduceIte, Nat.reduceEqDiff, Nat.reduceAdd, Nat.reduceMul, Nat.reduceSub, Nat.reduceLeDiff, Nat.reduceLT, reduceCtorEq, getD_map hi, getD_map (hl ▸ hi), eNm]
      refine ⟨⟨by omega, by omega, wid_map (g := eNm) (fun _ => rfl) _⟩, ⟨by omega, by omega, wid_map (g := eNm) (fun _ => rfl) _⟩, ?_⟩
      refine aw_if rfl (fun h => ?_) (fun h => ?_)
      · refine aw_sr rfl ?_
        simp only [go_sem, reduceIte, Nat.reduceEqDiff, Nat.reduceAdd, Nat.reduceMul, Nat.reduceSub, Nat.reduceLeDiff, Nat.reduceLT, reduceCtorEq]
        refine aw_ret ⟨trivial, _, rfl, ?_⟩
        refine ⟨?_, rfl⟩
        have h : ¬ xs[i] = ys[i]'(hl ▸ hi) := by simpa using h
        rw [decide_eq_false (fun e => h (by subst e; rfl))]
        rfl
      · have h : xs[i] = ys[i]'(hl ▸ hi) := by simpa using h
        refine aw_skip ⟨(), ?_, ?_, fun _ _ h => h⟩
        · rw [List.take_succ_eq_append_getElem hi, List.take_succ_eq_append_getElem (hl ▸ hi), he, h]
        · simp only [go_sem, reduceIte, Nat.reduceEqDiff, Nat.reduceAdd, Nat.reduceMul, Nat.reduceSub, Nat.reduceLeDiff, Nat.reduceLT, reduceCtorEq]
    · intro _ he
      refine hK3 _ _ ?_
      refine aw_sr rfl ?_
      simp only [go_sem, reduceIte, Nat.reduceEqDiff, Nat.reduceAdd, Nat.reduceMul, Nat.reduceSub, Nat.reduceLeDiff, Nat.reduceLT, reduceCtorEq]
      refine aw_ret ⟨trivial, _, rfl, ?_⟩
      rw [List.take_length, hl, List.take_length] at he
      subst he
      rw [decide_eq_true rfl]
      exact ⟨rfl, rfl⟩
inductive Eqv : Ex → Ex → Prop
  | mk {x y : Ex} (hk : x.kind = y.kind) (hn : x.num = y.num) (ht : x.text = y.text) (hnm : x.names.1 = y.names.1) (hty : x.types.1 = y.types.1) (hl : x.args.length = y.args.length) (ha : ∀ i (h1 : i < x.args.length) (h2 : i < y.args.length), Eqv x.args[i] y.args[i]) (hml : x.arms.length = y.arms.length) (hp : ∀ i (h1 : i < x.arms.length) (h2 : i < y.arms.length), x.arms[i].pat = y.arms[i].pat) (hm : ∀ i (h1 : i < x.arms.length) (h2 : i < y.arms.length), Eqv x.arms[i].body y.arms[i].body) : Eqv x y
theorem vle_true {b : Bool} (h : b = true) : Vle (V.bool b) (V.bool true) := by rw [h]; exact Vle.refl _
theorem q_SameType : ∀ (n : Nat) (t : Typ), t.sz ≤ n → OkTyp t → Quiet Try.prog 111 [.agg (cTyp t), .agg (cTyp t)] (.bool true) := by
  intro n
  induction n with
  | zero => intro t h; have := t.sz_eq; omega
  | succ n ih =>
  intro t hn ht
  have g3 : bulk = 1048576 := rfl
  have hl := ht.len
  refine Quiet.weak fun G => ?_
  refine acall_body (rs := [.tmp 4]) Try.func111 rfl rfl Try.ntmps111 (by kernel_rfl) (Nat.le_of_ble_eq_true rfl) ?_
  refine aw_sr rfl ?_  -- r0 @same.go:10
  simp only [go_sem, reduceIte, Nat.reduceEqDiff, Nat.reduceAdd, Nat.reduceMul, Nat.reduceSub, Nat.reduceLeDiff, Nat.reduceLT, reduceCtorEq]
  intro b2 hb2
  intro b3 hb3
  refine aw_box2 hb2 hb3 fun B1 hs1 h2 h3 _ _ => ?_
  have hsB := hs1
  refine aw_sr rfl ?_  -- r1 @same.go:11
  simp only [go_sem, reduceIte, Nat.reduceEqDiff, Nat.reduceAdd, Nat.reduceMul, Nat.reduceSub, Nat.reduceLeDiff, Nat.reduceLT, reduceCtorEq, h2, h3]
  refine goH_q (fun hg => q_EqTyps 111 t.args t.args t.nl t.nl .no .no (by omega) rfl (fun i h1 _ => ih _ (by have := Typ.sz_args (List.getElem_mem h1); omega) (ht.arg (List.getElem_mem h1)))) ?_
  simp only [go_sem, reduceIte, Nat.reduceEqDiff, Nat.reduceAdd, Nat.reduceMul, Nat.reduceSub, Nat.reduceLeDiff, Nat.reduceLT, reduceCtorEq, h2, h3]
  refine aw_ret ⟨trivial, _, rfl, ?_, hsB⟩
  refine vle_true ?_
  simp
theorem q_SamePat : ∀ (n : Nat) (t : Pat), t.sz ≤ n → OkPat t → Quiet Try.prog 207 [.agg (cPat t), .agg (cPat t)] (.bool true) := by
  intro n
  induction n with
  | zero => intro t h; have := t.sz_eq; omega
  | succ n ih =>
  intro t hn ht
  have g3 : bulk = 1048576 := rfl
  have hl := ht.len
  refine Quiet.weak fun G => ?_
  refine acall_body (rs := [.tmp 4]) Try.func207 rfl rfl Try.ntmps207 (by kernel_rfl) (Nat.le_of_ble_eq_true rfl) ?_
  refine aw_sr rfl ?_  -- r0 @same.go:15
  simp only [go_sem, reduceIte, Nat.reduceEqDiff, Nat.reduceAdd, Nat.reduceMul, Nat.reduceSub, Nat.reduceLeDiff, Nat.reduceLT, reduceCtorEq]
  intro b2 hb2
  intro b3 hb3
  refine aw_box2 hb2 hb3 fun B1 hs1 h2 h3 _ _ => ?_
  have hsB := hs1
  refine aw_sr rfl ?_  -- r1 @same.go:16
  simp only [go_sem, reduceIte, Nat.reduceEqDiff, Nat.reduceAdd, Nat.reduceMul, Nat.reduceSub, Nat.reduceLeDiff, Nat.reduceLT, reduceCtorEq, h2, h3]
  refine goH_q (fun hg => q_EqPats 207 t.args t.args t.nl t.nl .no .no (by omega) rfl (fun i h1 _ => ih _ (by have := Pat.sz_args (List.getElem_mem h1); omega) (ht.arg (List.getElem_mem h1)))) ?_
  simp only [go_sem, reduceIte, Nat.reduceEqDiff, Nat.reduceAdd, Nat.reduceMul, Nat.reduceSub, Nat.reduceLeDiff, Nat.reduceLT, reduceCtorEq, h2, h3]
  refine aw_ret ⟨trivial, _, rfl, ?_, hsB⟩
  refine vle_true ?_
  simp
theorem q_sameArm1 (x y : Arm) (hp : x.pat = y.pat) (ho : OkPat x.pat) (hq : Quiet Try.prog 48 [.agg (cEx x.body), .agg (cEx y.body)] (.bool true)) : Quiet Try.prog 114 [.agg (cArm x), .agg (cArm y)] (.bool true) := by
  refine Quiet.weak fun G => ?_
  refine acall_body (rs := [.tmp 4]) Try.func114 rfl rfl Try.ntmps114 (by kernel_rfl) (Nat.le_of_ble_eq_true rfl) ?_
  refine aw_sr rfl ?_  -- r0 @same.go:24
  simp only [go_sem, reduceIte, Nat.reduceEqDiff, Nat.reduceAdd, Nat.reduceMul, Nat.reduceSub, Nat.reduceLeDiff, Nat.reduceLT, reduceCtorEq]
  intro b2 hb2
  intro b3 hb3
  refine aw_box2 hb2 hb3 fun B1 hs1 h2 h3 _ _ => ?_
  have hsB := hs1
  refine aw_sr rfl ?_  -- r1 @same.go:24
  simp only [go_sem, reduceIte, Nat.reduceEqDiff, Nat.reduceAdd, Nat.reduceMul, Nat.reduceSub, Nat.reduceLeDiff, Nat.reduceLT, reduceCtorEq, h2, h3, ← hp]
  refine goA_q (q_SamePat _ x.pat (Nat.le_refl _) ho) ?_
  simp only [go_sem, reduceIte, Nat.reduceEqDiff, Nat.reduceAdd, Nat.reduceMul, Nat.reduceSub, Nat.reduceLeDiff, Nat.reduceLT, reduceCtorEq, h2, h3]
  refine goH_q (fun hg => hq) ?_
  simp only [go_sem, reduceIte, Nat.reduceEqDiff, Nat.reduceAdd, Nat.reduceMul, Nat.reduceSub, Nat.reduceLeDiff, Nat.reduceLT, reduceCtorEq, h2, h3]
  refine aw_ret ⟨trivial, _, rfl, ?_, hsB⟩
  refine vle_true ?_
  simp
theorem q_SameExpr : ∀ (n : Nat) (x y : Ex), x.sz ≤ n → OkEx x → Eqv x y → Quiet Try.prog 48 [.agg (cEx x), .agg (cEx y)] (.bool true) := by
  intro n
  induction n with
  | zero => intro x y h; have := x.sz_eq; omega
  | succ n ih =>
  intro x y hn hx he
  have g3 : bulk = 1048576 := rfl
  have hl1 := hx.len
  have hl2 := hx.mlen
  have hl3 := hx.names.2.1
  have hl4 := oTypL.len hx.types
  cases he with
  | mk hk hnum ht hnm hty hl ha hml hp hm =>
  have q1 := q_EqNms x.names.1 y.names.1 x.names.2 y.names.2 .no .no (by omega)
  rw [decide_eq_true hnm] at q1
  have q2 := q_EqTyps 111 x.types.1 y.types.1 x.types.2 y.types.2 .no .no (by omega) (by rw [hty]) (fun i h1 h2 => by
    have e : y.types.1[i] = x.types.1[i] := by simp [hty]
    rw [e]
    exact q_SameType _ _ (Nat.le_refl _) (hx.types.2.2 _ (List.getElem_mem h1)))
  have q3 := q_EqExs 48 x.args y.args x.anl y.anl .no .no (by omega) hl (fun i h1 h2 => ih _ _ (by have := Ex.sz_arg (List.getElem_mem h1); omega) (hx.arg (List.getElem_mem h1)) (ha i h1 h2))
  have q4 := q_EqArms 114 x.arms y.arms x.mnl y.mnl .no .no (by omega) hml (fun i h1 h2 => q_sameArm1 _ _ (hp i h1 h2) (hx.pat (List.getElem_mem h1)) (ih _ _ (by have := Ex.sz_arm (List.getElem_mem h1); omega) (hx.body (List.getElem_mem h1)) (hm i h1 h2)))
  refine Quiet.weak fun G => ?_
  refine acall_body (rs := [.tmp 4]) Try.func48 rfl rfl Try.ntmps48 (by kernel_rfl) (Nat.le_of_ble_eq_true rfl) ?_
  refine aw_sr rfl ?_  -- r0 @same.go:20
  simp only [go_sem, reduceIte, Nat.reduceEqDiff, Nat.reduceAdd, Nat.reduceMul, Nat.reduceSub, Nat.reduceLeDiff, Nat.reduceLT, reduceCtorEq]
  intro b2 hb2
  intro b3 hb3
  refine aw_box2 hb2 hb3 fun B1 hs1 h2 h3 _ _ => ?_
  have hsB := hs1
  refine aw_sr rfl ?_  -- r1 @same.go:21
  simp only [go_sem, reduceIte, Nat.reduceEqDiff, Nat.reduceAdd, Nat.reduceMul, Nat.reduceSub, Nat.reduceLeDiff, Nat.reduceLT, reduceCtorEq, h2, h3]
  refine goH_q (fun hg => q1) ?_
  simp only [go_sem, reduceIte, Nat.reduceEqDiff, Nat.reduceAdd, Nat.reduceMul, Nat.reduceSub, Nat.reduceLeDiff, Nat.reduceLT, reduceCtorEq, h2, h3]
  refine goH_q (fun hg => q2) ?_
  simp only [go_sem, reduceIte, Nat.reduceEqDiff, Nat.reduceAdd, Nat.reduceMul, Nat.reduceSub, Nat.reduceLeDiff, Nat.reduceLT, reduceCtorEq, h2, h3]
  refine goH_q (fun hg => q3) ?_
  simp only [go_sem, reduceIte, Nat.reduceEqDiff, Nat.reduceAdd, Nat.reduceMul, Nat.reduceSub, Nat.reduceLeDiff, Nat.reduceLT, reduceCtorEq, h2, h3]
  refine goH_q (fun hg => q4) ?_
  simp only [go_sem, reduceIte, Nat.reduceEqDiff, Nat.reduceAdd, Nat.reduceMul, Nat.reduceSub, Nat.reduceLeDiff, Nat.reduceLT, reduceCtorEq, h2, h3]
  refine aw_ret ⟨trivial, _, rfl, ?_, hsB⟩
  refine vle_true ?_
  simp [hk, hnum, ht]
end Go.Proofs.Ytlgfffngojlffaa

/- Folding does not see what is nil. No conditions. -/
set_option linter.unusedSimpArgs false
set_option linter.unusedVariables false
namespace Go.Proofs.Ytlgfffngojlffaa
open Go.Proofs.YtlgfffngojlffaaV
set_option maxRecDepth 100000
theorem Eqv.refl : ∀ (n : Nat) (x : Ex), x.sz ≤ n → Eqv x x := by
  intro n
  induction n with
  | zero => intro x h; have := x.sz_eq; omega
  | succ n ih =>
  intro x h
  exact .mk rfl rfl rfl rfl rfl rfl (fun i h1 _ => ih _ (by have := Ex.sz_arg (List.getElem_mem h1); omega)) rfl (fun _ _ _ => rfl) (fun i h1 _ => ih _ (by have := Ex.sz_arm (List.getElem_mem h1); omega))
theorem Eqv.rfl' (x : Ex) : Eqv x x := Eqv.refl _ x (Nat.le_refl _)
theorem frees_congr : ∀ (l l' : List Ex), l.length = l'.length → (∀ i (h1 : i < l.length) (h2 : i < l'.length), ∀ ws os, freeF l[i] ws os = freeF l'[i] ws os) → ∀ k t nm ws i n os, freesF k t nm ws l i n os = freesF k t nm ws l' i n os
  | [], [], _, _, k, t, nm, ws, i, n, os => rfl
  | [], _ :: _, h, _, _, _, _, _, _, _, _ => by simp at h
  | _ :: _, [], h, _, _, _, _, _, _, _, _ => by simp at h
  | x :: l, x' :: l', h, hf, k, t, nm, ws, i, n, os => by
    have h0 := hf 0 (by simp) (by simp)
    simp only [List.getElem_cons_zero] at h0
    have ih := frees_congr l l' (by simpa using h) (fun j h1 h2 => by have := hf (j + 1) (by simp; omega) (by simp; omega); simpa using this)
    rw [freesF, freesF, h0, ih]
theorem freem_congr : ∀ (l l' : List Arm), l.length = l'.length → (∀ i (h1 : i < l.length) (h2 : i < l'.length), ∀ ws os, freeA ws l[i] os = freeA ws l'[i] os) → ∀ ws os, freesM ws l os = freesM ws l' os
  | [], [], _, _, ws, os => rfl
  | [], _ :: _, h, _, _, _ => by simp at h
  | _ :: _, [], h, _, _, _ => by simp at h
  | x :: l, x' :: l', h, hf, ws, os => by
    have h0 := hf 0 (by simp) (by simp)
    simp only [List.getElem_cons_zero] at h0
    have ih := freem_congr l l' (by simpa using h) (fun j h1 h2 => by have := hf (j + 1) (by simp; omega) (by simp; omega); simpa using this)
    rw [freesM, freesM, h0, ih]
theorem free_eqv : ∀ (n : Nat) (x y : Ex), x.sz ≤ n → Eqv x y → ∀ ws os, freeF x ws os = freeF y ws os := by
  intro n
  induction n with
  | zero => intro x y h; have := x.sz_eq; omega
  | succ n ih =>
  intro x y hn he ws os
  cases he with
  | mk hk hnum ht hnm hty hl ha hml hp hm =>
  have c1 := frees_congr x.args y.args hl (fun i h1 h2 => ih _ _ (by have := Ex.sz_arg (List.getElem_mem h1); omega) (ha i h1 h2))
  have c2 := freem_congr x.arms y.arms hml (fun i h1 h2 ws os => by
    rw [freeA_eq, freeA_eq, hp i h1 h2]
    exact ih _ _ (by have := Ex.sz_arm (List.getElem_mem h1); omega) (hm i h1 h2) _ _)
  rw [freeF_eq, freeF_eq, hk, hnum, ht, hnm, hl]
  simp only [c1, c2]
theorem Eqv.free {x y : Ex} (h : Eqv x y) : freeF x [] [] = freeF y [] [] := free_eqv _ x y (Nat.le_refl _) h [] []
theorem Eqv.kind {x y : Ex} (h : Eqv x y) : x.kind = y.kind := by cases h; assumption
theorem Eqv.num {x y : Ex} (h : Eqv x y) : x.num = y.num := by cases h; assumption
theorem Eqv.text {x y : Ex} (h : Eqv x y) : x.text = y.text := by cases h; assumption
theorem Eqv.lit {x y : Ex} (h : Eqv x y) : litF x = litF y := by unfold litF; rw [h.kind, h.num]
theorem eqv_ite {p : Prop} [Decidable p] {a b c d : Ex} (h1 : Eqv a c) (h2 : Eqv b d) : Eqv (if p then a else b) (if p then c else d) := by
  by_cases h : p
  · rw [if_pos h, if_pos h]; exact h1
  · rw [if_neg h, if_neg h]; exact h2
theorem eqv_two {x y a b c d : Ex} (h : Eqv x y) (h1 : Eqv a c) (h2 : Eqv b d) : Eqv (twoF x a b) (twoF y c d) := by
  unfold twoF
  rw [h.text, h1.kind, h1.num, h1.text, h2.num, h2.text]
  repeat' first
    | exact h
    | apply eqv_ite
    | exact Eqv.rfl' _
theorem eqv_fold1 {x y : Ex} (h : Eqv x y) : Eqv (fold1 x) (fold1 y) := by
  have hl : x.args.length = y.args.length := by cases h; assumption
  have ha : ∀ i (h1 : i < x.args.length) (h2 : i < y.args.length), Eqv x.args[i] y.args[i] := by cases h; assumption
  unfold fold1
  rw [h.kind, h.text]
  generalize x.args = xa at hl ha
  generalize y.args = ya at hl ha
  match xa, ya, hl, ha with
  | [], [], _, _ => exact h
  | [a], [b], _, ha =>
    have h0 := ha 0 (by simp) (by simp)
    simp only [List.getElem_cons_zero] at h0
    simp only [h0.kind, h0.lit, h0.num]
    apply eqv_ite
    · exact Eqv.rfl' _
    · exact h
  | [a, b], [c, d], _, ha =>
    have h0 := ha 0 (by simp) (by simp)
    have h1 := ha 1 (by simp) (by simp)
    simp only [List.getElem_cons_zero, List.getElem_cons_succ] at h0 h1
    simp only [h0.kind, h0.lit, h1.kind, h1.lit]
    apply eqv_ite
    · exact eqv_two h h0 h1
    · exact h
  | a :: b :: c :: l, a' :: b' :: c' :: l', _, ha =>
    have h0 := ha 0 (by simp) (by simp)
    have h1 := ha 1 (by simp) (by simp)
    have h2 := ha 2 (by simp) (by simp)
    simp only [List.getElem_cons_zero, List.getElem_cons_succ] at h0 h1 h2
    simp only [h0.kind, h0.lit, h0.num, h1.free, h2.free]
    repeat' first
      | exact h
      | exact h1
      | exact h2
      | apply eqv_ite
theorem map_eqv {f g : Ex → Ex} {l : List Ex} (h : ∀ a ∈ l, Eqv (f a) (g a)) : ∀ i (h1 : i < (l.map f).length) (h2 : i < (l.map g).length), Eqv (l.map f)[i] (l.map g)[i] := by
  intro i h1 h2
  rw [List.getElem_map, List.getElem_map]
  exact h _ (List.getElem_mem _)
theorem map_arm {b c : Bool} {R : Arm → Arm → Prop} {l : List Arm} (h : ∀ a ∈ l, R (fldA b a) (fldA c a)) : ∀ i (h1 : i < (l.map (fldA b)).length) (h2 : i < (l.map (fldA c)).length), R (l.map (fldA b))[i] (l.map (fldA c))[i] := by
  intro i h1 h2
  rw [List.getElem_map, List.getElem_map]
  exact h _ (List.getElem_mem _)
theorem eqv_prt {e : Ex} (hA : ∀ a ∈ e.args, Eqv (fldF true a) (fldF false a)) (hM : ∀ m ∈ e.arms, Eqv (fldF true m.body) (fldF false m.body)) : Eqv (prtF true e) (prtF false e) := by
  have hl : (e.args.map (fldF true)).length = (e.args.map (fldF false)).length := by simp
  have hl2 : (e.arms.map (fldA true)).length = (e.arms.map (fldA false)).length := by simp
  have h1 := map_eqv hA
  have h2 := map_arm (b := true) (c := false) (R := fun x y => x.pat = y.pat) (l := e.arms) (fun a ha => by simp only [fldA_eq]; rfl)
  have h3 := map_arm (b := true) (c := false) (R := fun x y => Eqv x.body y.body) (l := e.arms) (fun a ha => by simp only [fldA_eq]; exact hM a ha)
  exact .mk rfl rfl rfl rfl rfl hl h1 hl2 h2 h3
theorem eqv_fld : ∀ (n : Nat) (e : Ex), e.sz ≤ n → Eqv (fldF true e) (fldF false e) := by
  intro n
  induction n with
  | zero => intro x h; have := x.sz_eq; omega
  | succ n ih =>
  intro e hn
  rw [fldF_eq, fldF_eq]
  exact eqv_fold1 (eqv_prt (fun a ha => ih a (by have := Ex.sz_arg ha; omega)) (fun m hm => ih m.body (by have := Ex.sz_arm hm; omega)))
end Go.Proofs.Ytlgfffngojlffaa

/- The bulk of an expression answers some number. No conditions but sizes. -/
set_option linter.unusedSimpArgs false
set_option linter.unusedVariables false
namespace Go.Proofs.Ytlgfffngojlffaa
open Go.Proofs.YtlgfffngojlffaaV
set_option maxHeartbeats 400000
set_option maxRecDepth 100000
theorem q_fitsE : ∀ (n : Nat) (e : Ex) (deep : Int), e.sz ≤ n → OkEx e → QI Try.prog 46 [.agg (cEx e), .int .i64 deep] := by
  intro n
  induction n with
  | zero => intro e d h; have := e.sz_eq; omega
  | succ n ih =>
  intro e deep hn he
  have g3 : bulk = 1048576 := rfl
  have hl1 := he.len
  have hl2 := he.mlen
  refine QI.weak fun G => ?_
  refine acall_body (rs := [.tmp 4]) Try.func46 rfl rfl Try.ntmps46 (by kernel_rfl) (Nat.le_of_ble_eq_true rfl) ?_
  refine aw_sr rfl ?_  -- r0 @low.go:222
  simp only [go_sem, reduceIte, Nat.reduceEqDiff, Nat.reduceAdd, Nat.reduceMul, Nat.reduceSub, Nat.reduceLeDiff, Nat.reduceLT, reduceCtorEq]
  intro b2 hb2
  refine aw_box1 hb2 fun B1 hs1 h2 => ?_
  have hsB := hs1
  refine aw_seq fun K1 hK1 => ?_
  refine aw_sr rfl ?_  -- r1 @low.go:223
  simp only [go_sem, reduceIte, Nat.reduceEqDiff, Nat.reduceAdd, Nat.reduceMul, Nat.reduceSub, Nat.reduceLeDiff, Nat.reduceLT, reduceCtorEq]
  refine aw_if rfl (fun h => ?_) (fun h => ?_)
  · refine aw_sr rfl ?_  -- r2 @low.go:224
    simp only [go_sem, reduceIte, Nat.reduceEqDiff, Nat.reduceAdd, Nat.reduceMul, Nat.reduceSub, Nat.reduceLeDiff, Nat.reduceLT, reduceCtorEq]
    exact aw_ret ⟨trivial, _, rfl, ⟨_, Vle.refl _⟩, hsB⟩
  refine aw_skip (hK1 _ _ ?_)
  refine aw_sr rfl ?_  -- r3 @low.go:226
  simp only [go_sem, reduceIte, Nat.reduceEqDiff, Nat.reduceAdd, Nat.reduceMul, Nat.reduceSub, Nat.reduceLeDiff, Nat.reduceLT, reduceCtorEq, h2]
  refine aw_seq fun K2 hK2 => ?_
  refine aw_sr rfl ?_  -- r4 @low.go:227
  simp only [go_sem, reduceIte, Nat.reduceEqDiff, Nat.reduceAdd, Nat.reduceMul, Nat.reduceSub, Nat.reduceLeDiff, Nat.reduceLT, reduceCtorEq, h2]
  refine aw_range e.args.length (S := Int) (fun i st => [(1, .int .i64 deep), (2, .ptr b2 0), (5, .int .i64 st), (21, .sl (e.args.map eEx) e.anl .no)]) (fun _ _ => B1) (fun i _ => True) (IntKind.i64.wrap (IntKind.i64.wrap (1 + (e.names.1.length : Int)) + (e.types.1.length : Int))) (by omega) ?_ (fun _ _ h => h) trivial rfl (fun _ _ => rfl) ?_ ?_ (by decide)
  · simp only [go_sem, reduceIte, Nat.reduceEqDiff, Nat.reduceAdd, Nat.reduceMul, Nat.reduceSub, Nat.reduceLeDiff, Nat.reduceLT, reduceCtorEq, Int.natCast_zero]
  · intro i m0 hi he2
    have hm := List.getElem_mem hi
    refine aw_sr rfl ?_  -- r6 @low.go:227
    simp only [go_sem, reduceIte, Nat.reduceEqDiff, Nat.reduceAdd, Nat.reduceMul, Nat.reduceSub, Nat.reduceLeDiff, Nat.reduceLT, reduceCtorEq, getD_map hi, eEx_eq]
    refine ⟨⟨by omega, by omega, wid_ex _⟩, ?_⟩
    intro b7 hb7
    refine aw_box1 hb7 fun B2 hs2 h7 => ?_
    refine aw_rg rfl ?_  -- r7 @low.go:228
    simp only [go_sem, reduceIte, Nat.reduceEqDiff, Nat.reduceAdd, Nat.reduceMul, Nat.reduceSub, Nat.reduceLeDiff, Nat.reduceLT, reduceCtorEq, h7]
    refine goA_qi (ih e.args[i] _ (by have := Ex.sz_arg hm; omega) (he.arg hm)) fun m => ?_
    simp only [go_sem, reduceIte, Nat.reduceEqDiff, Nat.reduceAdd, Nat.reduceMul, Nat.reduceSub, Nat.reduceLeDiff, Nat.reduceLT, reduceCtorEq, h7]
    refine ⟨IntKind.i64.wrap (m0 + m), ?_, hs2⟩
    simp only [go_sem, reduceIte, Nat.reduceEqDiff, Nat.reduceAdd, Nat.reduceMul, Nat.reduceSub, Nat.reduceLeDiff, Nat.reduceLT, reduceCtorEq]
  intro m0 he2
  refine hK2 _ _ ?_
  refine aw_seq fun K3 hK3 => ?_
  refine aw_sr rfl ?_  -- r9 @low.go:230
  simp only [go_sem, reduceIte, Nat.reduceEqDiff, Nat.reduceAdd, Nat.reduceMul, Nat.reduceSub, Nat.reduceLeDiff, Nat.reduceLT, reduceCtorEq, h2]
  refine aw_range e.arms.length (S := Int) (fun i st => [(1, .int .i64 deep), (5, .int .i64 st), (35, .sl (e.arms.map eArm) e.mnl .no)]) (fun _ _ => B1) (fun i _ => True) m0 (by omega) ?_ (fun _ _ h => h) trivial rfl (fun _ _ => rfl) ?_ ?_ (by decide)
  · simp only [go_sem, reduceIte, Nat.reduceEqDiff, Nat.reduceAdd, Nat.reduceMul, Nat.reduceSub, Nat.reduceLeDiff, Nat.reduceLT, reduceCtorEq, Int.natCast_zero]
  · intro i m1 hi he3
    have hm := List.getElem_mem hi
    have hq := ih e.arms[i].body (IntKind.i64.wrap (deep - 1)) (by have := Ex.sz_arm hm; omega) (he.body hm)
    have hp := q_nodes e.arms[i].pat.sz e.arms[i].pat 50 (Nat.le_refl _) (he.pat hm)
    refine aw_sr rfl ?_  -- r11 @low.go:230
    simp only [go_sem, reduceIte, Nat.reduceEqDiff, Nat.reduceAdd, Nat.reduceMul, Nat.reduceSub, Nat.reduceLeDiff, Nat.reduceLT, reduceCtorEq, getD_map hi, eArm_eq]
    refine ⟨⟨by omega, by omega, wid_arm _⟩, ?_⟩
    generalize e.arms[i] = a at hq hp ⊢
    intro b9 hb9
    refine aw_box1 hb9 fun B2 hs2 h9 => ?_
    refine aw_rgt [(0,true),(1,true),(2,false),(3,true),(4,true),(5,false),(6,true),(7,false),(8,false),(9,true),(10,true),(11,true)]
      (.fork2 [(0,true),(1,true),(3,true),(4,true),(6,true)] 2 7 (.fork2 [] 5 7 (.leaf [(7,false),(8,false),(9,true),(10,true),(11,true)]) (.leaf [(5,false),(8,false),(9,true),(10,true),(11,true)])) (.leaf [(2,false),(5,false),(8,false),(9,true),(10,true),(11,true)])) mixed rfl (by kernel_rfl) ?_  -- r12 @low.go:231
    simp only [go_sem, reduceIte, Nat.reduceEqDiff, Nat.reduceAdd, Nat.reduceMul, Nat.reduceSub, Nat.reduceLeDiff, Nat.reduceLT, reduceCtorEq, goTr, h9]
    repeat' first
      | (refine goA_qi hq fun m => ?_
         simp only [go_sem, reduceIte, Nat.reduceEqDiff, Nat.reduceAdd, Nat.reduceMul, Nat.reduceSub, Nat.reduceLeDiff, Nat.reduceLT, reduceCtorEq, goTr, h9])
      | (refine goA_qi hp fun k => ?_
         simp only [go_sem, reduceIte, Nat.reduceEqDiff, Nat.reduceAdd, Nat.reduceMul, Nat.reduceSub, Nat.reduceLeDiff, Nat.reduceLT, reduceCtorEq, goTr, h9]
         refine ⟨IntKind.i64.wrap (m1 + IntKind.i64.wrap (m + k)), ?_, hs2⟩
         simp only [go_sem, reduceIte, Nat.reduceEqDiff, Nat.reduceAdd, Nat.reduceMul, Nat.reduceSub, Nat.reduceLeDiff, Nat.reduceLT, reduceCtorEq])
      | refine And.intro ?_ ?_
  intro m1 he3
  refine hK3 _ _ ?_
  refine aw_sr rfl ?_  -- r14 @low.go:233
  simp only [go_sem, reduceIte, Nat.reduceEqDiff, Nat.reduceAdd, Nat.reduceMul, Nat.reduceSub, Nat.reduceLeDiff, Nat.reduceLT, reduceCtorEq]
  exact aw_ret ⟨trivial, _, rfl, ⟨_, Vle.refl _⟩, hsB⟩
end Go.Proofs.Ytlgfffngojlffaa

/- Folding, the reference's, of any expression; the law FoldTells. No conditions but sizes. -/
set_option linter.unusedSimpArgs false
set_option linter.unusedVariables false
namespace Go.Proofs.Ytlgfffngojlffaa
open Go.Proofs.YtlgfffngojlffaaV
set_option maxHeartbeats 1000000
set_option maxRecDepth 100000
theorem q_Folded : ∀ (n : Nat) (e : Ex), e.sz ≤ n → OkEx e → e.sz ≤ bulk + 1 → Quiet Try.prog 47 [.agg (cEx e)] (.agg (cEx (fldF false e))) := by
  intro n
  induction n with
  | zero => intro e h; have := e.sz_eq; omega
  | succ n ih =>
  intro e hn he hsz
  have hA := fun a (ha : a ∈ e.args) => ih a (by have := Ex.sz_arg ha; omega) (he.arg ha) (by have := Ex.sz_arg ha; omega)
  have hM := fun m (hm : m ∈ e.arms) => ih m.body (by have := Ex.sz_arm hm; omega) (he.body hm) (by have := Ex.sz_arm hm; omega)
  have hp := ok_prt false he (fun a ha => (ok_fld false _ a (Nat.le_refl _) (he.arg ha)).1) (fun m hm => (ok_fld false _ m.body (Nat.le_refl _) (he.body hm)).1)
  have hs := sz_prt false (e := e) (fun a ha => (ok_fld false _ a (Nat.le_refl _) (he.arg ha)).2) (fun m hm => (ok_fld false _ m.body (Nat.le_refl _) (he.body hm)).2)
  rw [fldF_eq]
  exact q_Folded1 e (prtF false e) rfl he hp (Nat.le_trans hs hsz) hA hM
/-- An application of one thing. -/
def ap1 (e : Ex) : Ex := .mk 11 0 [] ([], true) ([], true) [e] false [] true 0
theorem ok_ap1 {e : Ex} (he : OkEx e) : OkEx (ap1 e) :=
  .mk (by decide) (by decide) (by decide) ⟨fun _ => rfl, by decide, fun s h => by cases h⟩ ⟨fun _ => rfl, by decide, fun s h => by cases h⟩ (fun h => by cases h) (show 1 ≤ bulk by decide) (fun a h => by rw [List.mem_singleton.1 h]; exact he) (fun _ => rfl) (by decide) (fun m h => by cases h) (fun m h => by cases h) (by decide)
theorem sz_ap1 (e : Ex) : (ap1 e).sz = e.sz + 1 := by rw [Ex.sz_eq]; show 1 + exszs [e] + amszs [] = _; simp only [exszs, amszs]; omega
theorem fld_ap1 (e : Ex) : fldF false (ap1 e) = .mk 11 0 [] ([], true) ([], true) [fldF false e] false [] true 0 := by
  rw [fldF_eq]
  exact fold1_0 (g7_off (show ¬ (11 : Int) = 7 by decide)) (g8_off (show ¬ (11 : Int) = 8 by decide)) (g9_off (show ¬ (11 : Int) = 8 by decide))
/-- Two and three. -/
def p23 : Ex := .mk 8 0 [43] ([], true) ([], true) [lit 2 2 [], lit 2 3 []] false [] true 0
theorem ok_p23 : OkEx p23 :=
  .mk (by decide) (by decide) (by decide) ⟨fun _ => rfl, by decide, fun s h => by cases h⟩ ⟨fun _ => rfl, by decide, fun s h => by cases h⟩ (fun h => by cases h) (by decide) (fun a h => by
    rcases List.mem_cons.1 h with rfl | h
    · exact ok_lit (by decide) (by decide) (by decide)
    · rw [List.mem_singleton.1 h]; exact ok_lit (by decide) (by decide) (by decide)) (fun _ => rfl) (by decide) (fun m h => by cases h) (fun m h => by cases h) (by decide)
theorem sz_p23 : p23.sz = 3 := by decide
theorem fld_p23 : fldF true p23 = lit 2 5 [] := by rfl
theorem Eqv.symm : ∀ (n : Nat) (x y : Ex), x.sz ≤ n → Eqv x y → Eqv y x := by
  intro n
  induction n with
  | zero => intro x y h; have := x.sz_eq; omega
  | succ n ih =>
  intro x y h he
  cases he with
  | mk hk hn ht hnm hty hl ha hml hp hm =>
  exact .mk hk.symm hn.symm ht.symm hnm.symm hty.symm hl.symm (fun i h1 h2 => ih _ _ (by have := Ex.sz_arg (List.getElem_mem h2); omega) (ha i h2 h1)) hml.symm (fun i h1 h2 => (hp i h2 h1).symm) (fun i h1 h2 => ih _ _ (by have := Ex.sz_arm (List.getElem_mem h2); omega) (hm i h2 h1))
namespace foldTells
theorem law0 (e : Ex) (he : OkEx e) (hsz : e.sz ≤ bulk) : Quiet Try.prog 7 [.agg (cEx e)] (.bool true) := by
  have g3 : bulk = 1048576 := rfl
  have hl1 := he.len
  have hl2 := he.mlen
  have h23 := q_FExpr 3 p23 (Nat.le_of_eq sz_p23) ok_p23 (by rw [sz_p23]; decide)
  rw [fld_p23] at h23
  have hA := fun a (ha : a ∈ e.args) => q_Folded _ a (Nat.le_refl _) (he.arg ha) (by have := Ex.sz_arg ha; omega)
  have hM := fun m (hm : m ∈ e.arms) => q_Folded _ m.body (Nat.le_refl _) (he.body hm) (by have := Ex.sz_arm hm; omega)
  have hW := q_Folded _ (ap1 e) (Nat.le_refl _) (ok_ap1 he) (by rw [sz_ap1]; omega)
  rw [fld_ap1] at hW
  have hF := q_FExpr _ e (Nat.le_refl _) he hsz
  have hRd := q_Folded _ e (Nat.le_refl _) he (by omega)
  have hP := q_FParts e he (fun a ha => q_FExpr _ a (Nat.le_refl _) (he.arg ha) (by have := Ex.sz_arg ha; omega)) (fun m hm => q_FExpr _ m.body (Nat.le_refl _) (he.body hm) (by have := Ex.sz_arm hm; omega))
  have hfits := q_fitsE _ e 30 (Nat.le_refl _) he
  have okT := ok_fld true _ e (Nat.le_refl _) he
  have okF := ok_fld false _ e (Nat.le_refl _) he
  have okP := ok_prt true he (fun a ha => (ok_fld true _ a (Nat.le_refl _) (he.arg ha)).1) (fun m hm => (ok_fld true _ m.body (Nat.le_refl _) (he.body hm)).1)
  have ev := eqv_fld _ e (Nat.le_refl _)
  have evs := Eqv.symm _ _ _ (Nat.le_refl _) ev
  have evp : Eqv (prtF true e) (prtF false e) := eqv_prt (fun a ha => eqv_fld _ a (Nat.le_refl _)) (fun m hm => eqv_fld _ m.body (Nat.le_refl _))
  have s1 := q_SameExpr _ _ _ (Nat.le_refl _) okT.1 ev
  have s2 := q_SameExpr _ _ _ (Nat.le_refl _) okP evp
  have s3 := q_SameExpr _ _ _ (Nat.le_refl _) okF.1 evs
  refine Quiet.weak fun G => ?_
  refine acall_body (rs := [.tmp 2]) Try.func7 rfl rfl Try.ntmps7 (by kernel_rfl) (Nat.le_of_ble_eq_true rfl) ?_
  refine aw_sr rfl ?_  -- r0 @low.go:237
  simp only [go_sem, reduceIte, Nat.reduceEqDiff, Nat.reduceAdd, Nat.reduceMul, Nat.reduceSub, Nat.reduceLeDiff, Nat.reduceLT, reduceCtorEq]
  intro b1 hb1
  refine aw_box1 hb1 fun B1 hs1 h1 => ?_
  have hsB := hs1
  refine aw_sr rfl ?_  -- r1 @low.go:238
  simp only [go_sem, reduceIte, Nat.reduceEqDiff, Nat.reduceAdd, Nat.reduceMul, Nat.reduceSub, Nat.reduceLeDiff, Nat.reduceLT, reduceCtorEq]
  have vl : ∀ n : Int, VleL [.int .i64 2, .int .i64 n, .str [], .sl [] true .full, .sl [] true .full, .sl [] true .full, .sl [] true .full, .int .i64 0] (eEx (lit 2 n [])) := fun n => by
    rw [eEx_eq]
    exact .cons (Vle.refl _) (.cons (Vle.refl _) (.cons (Vle.refl _) (.cons Vle.untag (.cons Vle.untag (.cons Vle.untag (.cons Vle.untag (.cons (Vle.refl _) .nil)))))))
  refine goA_q (Quiet.args h23 (.cons (Vle.aggL (.cons (Vle.refl _) (.cons (Vle.refl _) (.cons (Vle.refl _) (.cons Vle.untag (.cons Vle.untag (.cons (Vle.slE (.cons (vl 2) (.cons (vl 3) .nil))) (.cons Vle.untag (.cons (Vle.refl _) .nil))))))))) .nil)) ?_
  simp only [go_sem, reduceIte, Nat.reduceEqDiff, Nat.reduceAdd, Nat.reduceMul, Nat.reduceSub, Nat.reduceLeDiff, Nat.reduceLT, reduceCtorEq]
  intro b3 hb3
  refine aw_box1 hb3 fun B2 hs2 h3 => ?_
  replace h1 := hs2 _ _ h1
  replace hsB := sub_trans hsB hs2
  refine aw_seq fun K1 hK1 => ?_
  refine aw_sr rfl ?_  -- r2 @low.go:239
  simp only [go_sem, reduceIte, Nat.reduceEqDiff, Nat.reduceAdd, Nat.reduceMul, Nat.reduceSub, Nat.reduceLeDiff, Nat.reduceLT, reduceCtorEq, h3]
  refine aw_if rfl (fun h => absurd h (by decide)) (fun h => ?_)
  refine aw_skip (hK1 _ _ ?_)
  refine aw_seq fun K2 hK2 => ?_
  refine aw_sr rfl ?_  -- r4 @low.go:242
  simp only [go_sem, reduceIte, Nat.reduceEqDiff, Nat.reduceAdd, Nat.reduceMul, Nat.reduceSub, Nat.reduceLeDiff, Nat.reduceLT, reduceCtorEq, h1]
  refine goA_qi hfits fun mf => ?_
  simp only [go_sem, reduceIte, Nat.reduceEqDiff, Nat.reduceAdd, Nat.reduceMul, Nat.reduceSub, Nat.reduceLeDiff, Nat.reduceLT, reduceCtorEq, h1]
  refine aw_if rfl (fun h => ?_) (fun h => ?_)
  · refine aw_sr rfl ?_  -- r5 @low.go:243
    simp only [go_sem, reduceIte, Nat.reduceEqDiff, Nat.reduceAdd, Nat.reduceMul, Nat.reduceSub, Nat.reduceLeDiff, Nat.reduceLT, reduceCtorEq]
    exact aw_ret ⟨trivial, _, rfl, Vle.refl _, hsB⟩
  refine aw_skip (hK2 _ _ ?_)
  refine aw_sr rfl ?_  -- r6 @low.go:245
  simp only [go_sem, reduceIte, Nat.reduceEqDiff, Nat.reduceAdd, Nat.reduceMul, Nat.reduceSub, Nat.reduceLeDiff, Nat.reduceLT, reduceCtorEq, h1]
  have ve : VleL (cEx e) (eEx e) := by rw [eEx_eq]; exact VleL.refl _
  refine goA_q (Quiet.args hW (.cons (Vle.aggL (.cons (Vle.refl _) (.cons (Vle.refl _) (.cons (Vle.refl _) (.cons Vle.untag (.cons Vle.untag (.cons (Vle.slE (.cons ve .nil)) (.cons Vle.untag (.cons (Vle.refl _) .nil))))))))) .nil)) ?_
  simp only [go_sem, reduceIte, Nat.reduceEqDiff, Nat.reduceAdd, Nat.reduceMul, Nat.reduceSub, Nat.reduceLeDiff, Nat.reduceLT, reduceCtorEq, h1]
  intro b4 hb4
  refine aw_box1 hb4 fun B3 hs3 h4 => ?_
  replace h1 := hs3 _ _ h1
  replace hsB := sub_trans hsB hs3
  refine aw_sr rfl ?_  -- r7 @low.go:246
  simp only [go_sem, reduceIte, Nat.reduceEqDiff, Nat.reduceAdd, Nat.reduceMul, Nat.reduceSub, Nat.reduceLeDiff, Nat.reduceLT, reduceCtorEq, h1]
  intro b5 hb5
  have hbG : hget G b5 = none := none_sub hsB hb5
  have n15 : ¬ b1 = b5 := ne_fresh h1 hb5
  have n45 : ¬ b4 = b5 := ne_fresh h4 hb5
  refine aw_box1 hb5 fun B4 hs4 h5 => ?_
  replace h1 := hs4 _ _ h1
  replace h4 := hs4 _ _ h4
  replace hsB := sub_trans hsB hs4
  refine aw_sr rfl ?_  -- r8 @low.go:247
  simp only [go_sem, reduceIte, Nat.reduceEqDiff, Nat.reduceAdd, Nat.reduceMul, Nat.reduceSub, Nat.reduceLeDiff, Nat.reduceLT, reduceCtorEq, h5]
  generalize hH5 : hset B4 b5 _ = H5
  obtain ⟨m5, hk, hG, hR⟩ := set_facts hH5 h5
  replace h1 := hk _ _ h1 n15
  replace h4 := hk _ _ h4 n45
  have hsB5 := hG _ hbG hsB
  simp only [go_sem, reduceIte, Nat.reduceEqDiff, Nat.reduceAdd, Nat.reduceMul, Nat.reduceSub, Nat.reduceLeDiff, Nat.reduceLT, reduceCtorEq, m5]
  generalize hH6 : hset H5 b5 _ = H6
  obtain ⟨m5, hk, hG, hR⟩ := set_facts hH6 m5
  replace h1 := hk _ _ h1 n15
  replace h4 := hk _ _ h4 n45
  have hsB6 := hG _ hbG hsB5
  clear hH5 hH6 hk hG hR
  refine aw_seq fun K3 hK3 => ?_
  refine aw_sr rfl ?_  -- r9 @low.go:248
  simp only [go_sem, reduceIte, Nat.reduceEqDiff, Nat.reduceAdd, Nat.reduceMul, Nat.reduceSub, Nat.reduceLeDiff, Nat.reduceLT, reduceCtorEq, h1]
  refine aw_range e.args.length (S := Tag × Heap) (fun i _ => [(1, .ptr b1 0), (4, .ptr b4 0), (5, .ptr b5 0), (34, .sl (e.args.map eEx) e.anl .no)]) (fun _ s => s.2)
    (fun i s => Rm G s.2 8 s.1 ∧ Sub G s.2 ∧ hget s.2 b1 = some (.vars (cEx e)) ∧ hget s.2 b4 = some (.vars (cEx (.mk 11 0 [] ([], true) ([], true) [fldF false e] false [] true 0))) ∧ hget s.2 b5 = some (.vars [.int .i64 e.kind, .int .i64 e.num, .str e.text, .sl (e.names.1.map eNm) e.names.2 .no, .sl (e.types.1.map eTyp) e.types.2 .no, .sl (((e.args.take i).map (fldF false)).map eEx) (e.args.take i).isEmpty s.1, .sl [] true .full, .int .i64 e.pos])) (.full, H6) (by omega) ?_ (fun _ _ h => h) ⟨Rm.start _ _ _, hsB6, h1, h4, by simp only [List.take_zero, List.map_nil, List.isEmpty_nil]; exact m5⟩ rfl (fun _ _ => rfl) ?_ ?_ (by decide)
  · simp only [go_sem, reduceIte, Nat.reduceEqDiff, Nat.reduceAdd, Nat.reduceMul, Nat.reduceSub, Nat.reduceLeDiff, Nat.reduceLT, reduceCtorEq, Int.natCast_zero]
  · intro i ⟨t, H⟩ hi ⟨hr, hs, j1, j4, j5⟩
    simp only at hr hs j1 j4 j5 ⊢
    have hm := List.getElem_mem hi
    have hq := hA _ hm
    have htk : e.args.take (i + 1) = e.args.take i ++ [e.args[i]] := List.take_succ_eq_append_getElem hi
    refine aw_sr rfl ?_  -- r11 @low.go:248
    simp only [go_sem, reduceIte, Nat.reduceEqDiff, Nat.reduceAdd, Nat.reduceMul, Nat.reduceSub, Nat.reduceLeDiff, Nat.reduceLT, reduceCtorEq, getD_map hi, eEx_eq]
    refine ⟨⟨by omega, by omega, wid_ex _⟩, ?_⟩
    generalize e.args[i] = a at hq htk ⊢
    intro b7 hb7
    refine aw_box1 hb7 fun B7 hs7 h7 => ?_
    refine aw_rgd [(0,true),(1,true),(2,true),(3,true),(4,true),(5,false),(6,true),(7,false)] mixed rfl (by kernel_rfl) ?_  -- r12 @low.go:249
    simp only [go_sem, reduceIte, Nat.reduceEqDiff, Nat.reduceAdd, Nat.reduceMul, Nat.reduceSub, Nat.reduceLeDiff, Nat.reduceLT, reduceCtorEq, hs7 _ _ j5, h7]
    refine goQ_by hq ?_
    simp only [go_sem, reduceIte, Nat.reduceEqDiff, Nat.reduceAdd, Nat.reduceMul, Nat.reduceSub, Nat.reduceLeDiff, Nat.reduceLT, reduceCtorEq, hs7 _ _ j5, h7]
    refine goP_rm (hr.sub hs7) (sub_trans hs hs7) ⟨rfl, rfl, by decide, wid_ex _, wid_one (by simp), sca_ex1 _, by simp only [List.length_map, List.length_take, List.length_cons, List.length_nil]; omega, by simp only [List.length_map, List.length_take, List.length_cons, List.length_nil]; omega⟩ fun t8 H8 hr8 hs8 hg8 => ?_
    have k5 := hg8.vars (hs7 _ _ j5)
    have k1 := hg8.vars (hs7 _ _ j1)
    have k4 := hg8.vars (hs7 _ _ j4)
    simp only [go_sem, reduceIte, Nat.reduceEqDiff, Nat.reduceAdd, Nat.reduceMul, Nat.reduceSub, Nat.reduceLeDiff, Nat.reduceLT, reduceCtorEq, k5]
    generalize hH9 : hset H8 b5 _ = H9
    obtain ⟨m5, hk, hG, hR⟩ := set_facts hH9 k5
    refine ⟨(t8, H9), ⟨hR _ _ _ (fun _ _ q => by cases q) hr8, hG _ hbG hs8, hk _ _ k1 n15, hk _ _ k4 n45, ?_⟩, ?_, sub_rfl⟩
    · rw [htk, List.map_append, List.map_append, isE_append]
      simp only [List.map_cons, List.map_nil, eEx_eq, List.isEmpty_cons, Bool.and_false]
      exact m5
    · simp only [go_sem, reduceIte, Nat.reduceEqDiff, Nat.reduceAdd, Nat.reduceMul, Nat.reduceSub, Nat.reduceLeDiff, Nat.reduceLT, reduceCtorEq]
  intro ⟨t, H⟩ ⟨hr, hs, j1, j4, j5⟩
  simp only at hr hs j1 j4 j5 ⊢
  rw [List.take_length] at j5
  refine hK3 _ _ ?_
  refine aw_seq fun K4 hK4 => ?_
  refine aw_sr rfl ?_  -- r14 @low.go:251
  simp only [go_sem, reduceIte, Nat.reduceEqDiff, Nat.reduceAdd, Nat.reduceMul, Nat.reduceSub, Nat.reduceLeDiff, Nat.reduceLT, reduceCtorEq, j1]
  refine aw_range e.arms.length (S := Tag × Heap) (fun i _ => [(1, .ptr b1 0), (4, .ptr b4 0), (5, .ptr b5 0), (49, .sl (e.arms.map eArm) e.mnl .no)]) (fun _ s => s.2)
    (fun i s => Rm G s.2 12 s.1 ∧ Sub G s.2 ∧ hget s.2 b1 = some (.vars (cEx e)) ∧ hget s.2 b4 = some (.vars (cEx (.mk 11 0 [] ([], true) ([], true) [fldF false e] false [] true 0))) ∧ hget s.2 b5 = some (.vars [.int .i64 e.kind, .int .i64 e.num, .str e.text, .sl (e.names.1.map eNm) e.names.2 .no, .sl (e.types.1.map eTyp) e.types.2 .no, .sl ((e.args.map (fldF false)).map eEx) e.args.isEmpty t, .sl (((e.arms.take i).map (fldA false)).map eArm) (e.arms.take i).isEmpty s.1, .int .i64 e.pos])) (.full, H) (by omega) ?_ (fun _ _ h => h) ⟨Rm.start _ _ _, hs, j1, j4, by simp only [List.take_zero, List.map_nil, List.isEmpty_nil]; exact j5⟩ rfl (fun _ _ => rfl) ?_ ?_ (by decide)
  · simp only [go_sem, reduceIte, Nat.reduceEqDiff, Nat.reduceAdd, Nat.reduceMul, Nat.reduceSub, Nat.reduceLeDiff, Nat.reduceLT, reduceCtorEq, Int.natCast_zero]
  · clear j1 j4 j5
    intro i ⟨t4, H4⟩ hi ⟨hr, hs, j1, j4, j5⟩
    simp only at hr hs j1 j4 j5 ⊢
    have hm := List.getElem_mem hi
    have hq := hM _ hm
    have htk : e.arms.take (i + 1) = e.arms.take i ++ [e.arms[i]] := List.take_succ_eq_append_getElem hi
    have hfa := fldA_eq false e.arms[i]
    refine aw_sr rfl ?_  -- r16 @low.go:251
    simp only [go_sem, reduceIte, Nat.reduceEqDiff, Nat.reduceAdd, Nat.reduceMul, Nat.reduceSub, Nat.reduceLeDiff, Nat.reduceLT, reduceCtorEq, getD_map hi, eArm_eq]
    refine ⟨⟨by omega, by omega, wid_arm _⟩, ?_⟩
    generalize hga : e.arms[i] = ga at hq htk hfa ⊢
    intro b9 hb9
    refine aw_box1 hb9 fun B7 hs7 h7 => ?_
    refine aw_rgd [(0,true),(1,true),(2,true),(3,true),(4,true),(5,true),(6,true),(7,true),(8,true),(9,false),(10,true),(11,false)] mixed rfl (by kernel_rfl) ?_  -- r17 @low.go:252
    simp only [go_sem, reduceIte, Nat.reduceEqDiff, Nat.reduceAdd, Nat.reduceMul, Nat.reduceSub, Nat.reduceLeDiff, Nat.reduceLT, reduceCtorEq, hs7 _ _ j5, h7]
    refine goQ_by hq ?_
    simp only [go_sem, reduceIte, Nat.reduceEqDiff, Nat.reduceAdd, Nat.reduceMul, Nat.reduceSub, Nat.reduceLeDiff, Nat.reduceLT, reduceCtorEq, hs7 _ _ j5, h7]
    refine goP_rm (hr.sub hs7) (sub_trans hs hs7) ⟨rfl, rfl, by decide, wid_arm _, wid_one (by simp), by simp [sca, scalarV], by simp only [List.length_map, List.length_take, List.length_cons, List.length_nil]; omega, by simp only [List.length_map, List.length_take, List.length_cons, List.length_nil]; omega⟩ fun t8 H8 hr8 hs8 hg8 => ?_
    have k5 := hg8.vars (hs7 _ _ j5)
    have k1 := hg8.vars (hs7 _ _ j1)
    have k4 := hg8.vars (hs7 _ _ j4)
    simp only [go_sem, reduceIte, Nat.reduceEqDiff, Nat.reduceAdd, Nat.reduceMul, Nat.reduceSub, Nat.reduceLeDiff, Nat.reduceLT, reduceCtorEq, k5]
    generalize hH9 : hset H8 b5 _ = H9
    obtain ⟨m5, hk, hG, hR⟩ := set_facts hH9 k5
    refine ⟨(t8, H9), ⟨hR _ _ _ (fun _ _ q => by cases q) hr8, hG _ hbG hs8, hk _ _ k1 n15, hk _ _ k4 n45, ?_⟩, ?_, sub_rfl⟩
    · rw [htk, List.map_append, List.map_append, isE_append]
      simp only [List.map_cons, List.map_nil, hfa, eArm_eq, List.isEmpty_cons, Bool.and_false]
      exact m5
    · simp only [go_sem, reduceIte, Nat.reduceEqDiff, Nat.reduceAdd, Nat.reduceMul, Nat.reduceSub, Nat.reduceLeDiff, Nat.reduceLT, reduceCtorEq]
  clear j1 j4 j5
  intro ⟨t4, H4⟩ ⟨hr, hs, j1, j4, j5⟩
  simp only at hr hs j1 j4 j5 ⊢
  rw [List.take_length] at j5
  refine hK4 _ _ ?_
  have hl0 : ((0 : Int) < ((0 + 1 : Nat) : Int)) = True := by simp
  have hw1 : wid 8 [cEx (fldF false e)] := by simp [wid]
  have ea : (Ex.mk 11 0 [] ([], true) ([], true) [fldF false e] false [] true 0).args = [fldF false e] := rfl
  refine aw_srd [(0,true),(1,true),(2,true),(3,true),(4,true),(5,true),(6,true),(7,true),(8,true),(9,true),(10,true),(11,true),(12,true),(13,true),(14,true),(15,true),(16,true),(17,true),(18,true),(19,true),(20,true)] mixed rfl (by kernel_rfl) ?_  -- r19
  simp only [go_sem, reduceIte, Nat.reduceEqDiff, Nat.reduceAdd, Nat.reduceMul, Nat.reduceSub, Nat.reduceLeDiff, Nat.reduceLT, reduceCtorEq, j1, j4, j5, ea, eEx_eq, List.map_cons, List.map_nil, List.length_cons, List.length_nil, toNat0, List.getD_cons_zero, hl0, hw1, Int.le_refl]
  refine goQ_by hF ?_
  simp only [go_sem, reduceIte, Nat.reduceEqDiff, Nat.reduceAdd, Nat.reduceMul, Nat.reduceSub, Nat.reduceLeDiff, Nat.reduceLT, reduceCtorEq, j1, j4, j5, ea, eEx_eq, List.map_cons, List.map_nil, List.length_cons, List.length_nil, toNat0, List.getD_cons_zero, hl0, hw1, Int.le_refl]
  refine goQ_by hRd ?_
  simp only [go_sem, reduceIte, Nat.reduceEqDiff, Nat.reduceAdd, Nat.reduceMul, Nat.reduceSub, Nat.reduceLeDiff, Nat.reduceLT, reduceCtorEq, j1, j4, j5, ea, eEx_eq, List.map_cons, List.map_nil, List.length_cons, List.length_nil, toNat0, List.getD_cons_zero, hl0, hw1, Int.le_refl]
  refine goQ_by s1 ?_
  simp only [go_sem, reduceIte, Nat.reduceEqDiff, Nat.reduceAdd, Nat.reduceMul, Nat.reduceSub, Nat.reduceLeDiff, Nat.reduceLT, reduceCtorEq, j1, j4, j5, ea, eEx_eq, List.map_cons, List.map_nil, List.length_cons, List.length_nil, toNat0, List.getD_cons_zero, hl0, hw1, Int.le_refl]
  refine goQg_by (fun hg => hP) ?_
  simp only [go_sem, reduceIte, Nat.reduceEqDiff, Nat.reduceAdd, Nat.reduceMul, Nat.reduceSub, Nat.reduceLeDiff, Nat.reduceLT, reduceCtorEq, j1, j4, j5, ea, eEx_eq, List.map_cons, List.map_nil, List.length_cons, List.length_nil, toNat0, List.getD_cons_zero, hl0, hw1, Int.le_refl]
  refine goQg_by (fun hg => Quiet.args s2 (.cons (Vle.refl _) (.cons (Vle.aggL (.cons (Vle.refl _) (.cons (Vle.refl _) (.cons (Vle.refl _) (.cons (Vle.refl _) (.cons (Vle.refl _) (.cons Vle.untag (.cons Vle.untag (.cons (Vle.refl _) .nil))))))))) .nil))) ?_
  simp only [go_sem, reduceIte, Nat.reduceEqDiff, Nat.reduceAdd, Nat.reduceMul, Nat.reduceSub, Nat.reduceLeDiff, Nat.reduceLT, reduceCtorEq, j1, j4, j5, ea, eEx_eq, List.map_cons, List.map_nil, List.length_cons, List.length_nil, toNat0, List.getD_cons_zero, hl0, hw1, Int.le_refl]
  refine goQg_by (fun hg => hF) ?_
  simp only [go_sem, reduceIte, Nat.reduceEqDiff, Nat.reduceAdd, Nat.reduceMul, Nat.reduceSub, Nat.reduceLeDiff, Nat.reduceLT, reduceCtorEq, j1, j4, j5, ea, eEx_eq, List.map_cons, List.map_nil, List.length_cons, List.length_nil, toNat0, List.getD_cons_zero, hl0, hw1, Int.le_refl]
  refine goQg_by (fun hg => s3) ?_
  simp only [go_sem, reduceIte, Nat.reduceEqDiff, Nat.reduceAdd, Nat.reduceMul, Nat.reduceSub, Nat.reduceLeDiff, Nat.reduceLT, reduceCtorEq, j1, j4, j5, ea, eEx_eq, List.map_cons, List.map_nil, List.length_cons, List.length_nil, toNat0, List.getD_cons_zero, hl0, hw1, Int.le_refl]
  exact aw_ret ⟨trivial, _, rfl, Vle.refl _, hs⟩
end foldTells
end Go.Proofs.Ytlgfffngojlffaa

/- The law FoldTells for what comes in. No conditions but sizes. -/
set_option linter.unusedSimpArgs false
set_option linter.unusedVariables false
namespace Go.Proofs.Ytlgfffngojlffaa.foldTells
open Go.Proofs.YtlgfffngojlffaaV
set_option maxRecDepth 100000
theorem law (x0 : Ex) (q0 : oEx x0) : Quiet Try.prog 7 [.agg (eEx x0)] (.bool true) := by
  have h := law0 x0 q0.1 q0.2
  rw [← eEx_eq] at h
  exact h
end Go.Proofs.Ytlgfffngojlffaa.foldTells

/- 'roadlaw1.FoldTells' returns true for every input whose bulk is at most 1048576 values and letters (the statement's own bound): . No other condition. -/
set_option linter.unusedSimpArgs false
set_option linter.unusedVariables false
set_option maxRecDepth 100000
namespace Go.Proofs.Ytlgfffngojlffaa.foldTells
open Go.ChangeShapes Go.WideShapes Go.ChangeAt Go.RowKit
open Go.Proofs.YtlgfffngojlffaaV
theorem own : ownKnob Try.prog.godebug = none := by kernel_rfl
theorem laidOut : laidOutB Try.prog = true := by kernel_rfl
theorem uBool : Try.prog.underlying 4 = some .bool := by kernel_rfl
theorem typed {xs : List V} (h : TyAll Try.prog [63] xs) (hs : vszL xs ≤ 1048576) : Quiet Try.prog 7 xs (.bool true) := by
  obtain ⟨x0, rfl, q0⟩ := args h hs
  exact law x0 q0
theorem contract (H : Type) (enc : TypeId × Value → H) (W : World) (base : Nat) (args : Array Value) (ds gs : List (DataW H)) (before : List MemPlace)
    (hval : ∀ (j : Nat) t v, Try.f7.params[j]? = some t → args[j]? = some v → Value.okWide Try.prog W .any base t v)
    (hW : DataW.Whole enc Try.prog Try.f7.params.toList Rows.foldTellsSpec.vars false W args.toList ds gs before) (hk : Rows.uptoSmall H (ds ++ gs) = true) :
    Calls Try.prog 7 args W fun e W' => ∃ v, e = .returned v ∧ Rows.foldTellsSpec.post enc Try.prog Try.f7 false true false false W args v W' := by
  have hW' := hW
  obtain ⟨p, q, hA0, hV, rfl, hfz, hnd⟩ := hW
  have hA : DataW.TrodAll enc Try.prog W 0 (fun _ => true) true Try.f7.params.toList args.toList ds p := hA0
  obtain ⟨rfl, rfl⟩ := trodVars_none hV
  rw [Try.params7] at hA hval
  obtain ⟨xs, hr, ht, hs⟩ := trod_all (fun j t v hj hv => hval j t v (by simpa using hj) (by simpa using hv)) hA
  have hk' : Rows.uptoBulkAll (ds ++ []) ≤ 1048576 := of_decide_eq_true hk
  rw [List.append_nil] at hk'
  have hq := typed ht (Nat.le_trans hs hk')
  refine (ACall.calls (hq []) Try.func7 rfl rfl hr).mono fun e W' ⟨v, he, bel, M', x, G', hx, hxe, _⟩ => ?_
  subst hxe
  have hv := hx.bool_inv
  subst he hv
  have hst := trod_stays laidOut bel (by kernel_rfl) hA
  obtain ⟨v0, vs0, d0, ds0, p0, q0, hargs, rfl, rfl, h0, r0⟩ := trodAll_cons hA
  obtain ⟨rfl, rfl, rfl⟩ := trodAll_nil r0
  exact ⟨_, rfl, _, _, _, [], _, [], hW', trodAll_mk1 (shut_bool uBool _), hst, rfl, bel.frame _, fun h => by cases h⟩
set_option maxRecDepth 100000 in
theorem lifted (os : Os) (started : os.Started) (H : Type) (enc : TypeId × Value → H) (F : Stop.Interp) :
    ReturnsInHanded {} Try.checked os 7 .any ((Rows.OpenSpec.upto Rows.foldTellsSpec).pre6 enc Try.prog Try.f7 Rows.foldTellsUptoRow.domain false) (((Rows.OpenSpec.upto Rows.foldTellsSpec).at F).post enc Try.prog Try.f7 false true false false) := by
  refine returnsInHanded_of_cond (C := Try.checked) (s := Rows.OpenSpec.upto Rows.foldTellsSpec) (k := Rows.uptoSmall) rfl own started (by kernel_rfl) Try.func7
    (OpenSpec.witness (enc := enc) (C := Try.checked) (s := Rows.OpenSpec.upto Rows.foldTellsSpec) (k := Rows.uptoSmall) rfl false ⟨#[], #[(.agg #[(.int .i64 0), (.int .i64 0), (.string ⟨#[]⟩), (.slice none 0 0), (.slice none 0 0), (.slice none 0 0), (.slice none 0 0), (.int .i64 0)])], []⟩ 8 (by kernel_rfl) (by kernel_rfl) (by kernel_rfl)
      (x := ([(.agg [(.lit (.int .i64 0)), (.lit (.int .i64 0)), (.lit (.string [])), .nil, .nil, .nil, .nil, (.lit (.int .i64 0))])], [], [])) (by kernel_rfl) rfl (by kernel_rfl)) ?_
  intro W base args ds gs before hval hW _ hk _
  exact contract H enc W base args ds gs before hval hW hk
set_option maxHeartbeats 4000000 in
theorem joined : joinedFacts Try.pinned.checked.prog 7 Try.f7 (Rows.OpenSpec.upto Rows.foldTellsSpec).bare Rows.foldTellsUptoRow = true := by
  unfold joinedFacts
  simp only [Bool.and_eq_true]
  repeat' apply And.intro
  all_goals (as_aux_lemma => kernel_rfl)
theorem over : Rows.foldTellsUptoRow.holds Try.pinned (Rows.OpenSpec.upto Rows.foldTellsSpec) :=
  OpenClaim.holds_of_cond 7 Try.f7 rfl rfl rfl rfl rfl rfl rfl ⟨rfl, rfl, rfl, rfl, rfl⟩ rfl rfl rfl rfl rfl (by kernel_rfl) Try.func7 joined
    (of_decide_eq_true (by kernel_rfl)) (by unfold Func.isWrapper; first | (rw [if_pos (by decide +kernel)]; kernel_rfl) | (rw [if_neg (by decide +kernel)]; exact ⟨rfl, rfl⟩))
    (fun os started H enc _ F => lifted os started H enc F)
theorem proved : Rows.FoldTellsUptoSaid := over
#print axioms proved
end Go.Proofs.Ytlgfffngojlffaa.foldTells
