/- Part 7 of a proof laid in parts; each part's own comment says what it proves and under which conditions. -/
import Derived.Test.YtlgfffngojlffaaGreatLq6
import Derived.Test.YtlgfffngojlffaaGreatLq3
import Derived.Test.YtlgfffngojlffaaGreatRows
import Derived.WalkKit
import Derived.ProofKit
import Derived.OpenShut
import Derived.JoinedCond
/- Read: what is read of bytes is the snapshot that they were written for; other bytes are none of a snapshot's. No conditions. -/
set_option linter.unusedSimpArgs false
set_option linter.unusedVariables false
namespace Go.Proofs.YtlgfffngojlffaaGreat
open Go.Proofs.YtlgfffngojlffaaGreatV
set_option maxHeartbeats 400000
set_option maxRecDepth 100000
abbrev snZ : List V := [.int .i64 0, .sl [] true .full, .sl [] true .full]
theorem q_ReadNo : Quiet Tryz.prog 28 [] (.tup [.agg snZ, .int .i64 3]) := by
  refine Quiet.weak fun G => ?_
  refine acall_body (rs := [.cell 0 26, .tmp 1]) Tryz.func28 rfl rfl Tryz.ntmps28 (by kernel_rfl) (Nat.le_of_ble_eq_true rfl) ?_
  refine aw_sr rfl ?_  -- r0 @store.go:168
  simp only [go_sem, reduceIte, Nat.reduceEqDiff, Nat.reduceAdd, Nat.reduceMul, Nat.reduceSub, Nat.reduceLeDiff, Nat.reduceLT, reduceCtorEq]
  intro b0 hb0
  refine aw_box1 hb0 fun B1 hs1 h0 => ?_
  refine aw_sr rfl ?_  -- r1 @store.go:168
  simp only [go_sem, reduceIte, Nat.reduceEqDiff, Nat.reduceAdd, Nat.reduceMul, Nat.reduceSub, Nat.reduceLeDiff, Nat.reduceLT, reduceCtorEq, h0]
  have h24 := hget_hset_self (y := .vars snZ) h0
  refine aw_ret ⟨trivial, ?_⟩
  simp only [go_sem, reduceIte, Nat.reduceEqDiff, Nat.reduceAdd, Nat.reduceMul, Nat.reduceSub, Nat.reduceLeDiff, Nat.reduceLT, reduceCtorEq, resL, resOf, h24]
  exact ⟨_, rfl, Vle.refl _, sub_hset_fresh hb0 hs1⟩
theorem no_vle : Vle (.tup [.agg snZ, .int .i64 3]) (pairN (zSnp, 3)) := Vle.tupL (.cons (Vle.aggL (by repeat (first | exact .nil | refine .cons (Vle.refl _) ?_ | refine .cons Vle.untag ?_ | refine .cons (Vle.aggL ?_) ?_ | refine .cons (Vle.slE ?_) ?_))) (.cons (Vle.refl _) .nil))
theorem snapR_ok {v : Snp} {b : List UInt8} (h1 : (snapR v).2 = 0) (h2 : (snapR v).1.1 = b) : checkN v = 0 ∧ v.2.2.1.any bigW = false ∧ snapB v = b := by
  unfold snapR at h1 h2
  split at h1
  · rename_i h; exact absurd h1 h
  · rename_i h
    split at h1
    · cases h1
    · rename_i hb
      rw [if_neg h, if_neg hb] at h2
      exact ⟨by simpa using h, by simpa using hb, h2⟩
theorem snapR_good {v : Snp} (h : GoodN v) : snapR v = ((snapB v, false), 0) := by
  unfold snapR
  rw [if_neg (by rw [h.2.1]; simp), if_neg (by rw [h.2.2]; simp)]
theorem time_or {t c : Int} (h0 : 0 ≤ t) (hc : 0 ≤ c ∧ c ≤ 255) (h : t * 256 + c ≤ 9223372036854775807) : bits BinOp.or IntKind.i64 (IntKind.i64.wrap (t * 2 ^ 8)) c = t * 256 + c := by
  obtain ⟨tn, rfl⟩ := Int.eq_ofNat_of_zero_le h0
  obtain ⟨cn, rfl⟩ := Int.eq_ofNat_of_zero_le hc.1
  have e : ((tn : Nat) : Int) * 2 ^ 8 = ((tn * 2 ^ 8 : Nat) : Int) := by rw [Int.natCast_mul, Int.natCast_pow]; rfl
  have e8 : (2 : Nat) ^ 8 = 256 := rfl
  have e63 : (2 : Nat) ^ 63 = 9223372036854775808 := rfl
  rw [e, wrap64 (by omega) (by omega), orI_hi (m := 8) (by omega) (by omega)]
  omega
theorem q_Read (b : List UInt8) (nl : Bool) (hnl : nl = true → b = []) (hb : b.length ≤ bulk) : Quiet Tryz.prog 10 [.sl (bytesV b) nl .no] (pairN (readNF b)) := by
  have hbl : b.length ≤ 1048576 := hb
  refine Quiet.weak fun G => ?_
  refine acall_body (rs := [.cell 2 26, .tmp 3]) Tryz.func10 rfl rfl Tryz.ntmps10 (by kernel_rfl) (Nat.le_of_ble_eq_true rfl) ?_
  refine aw_sr rfl ?_  -- r0 @store.go:167
  simp only [go_sem, reduceIte, Nat.reduceEqDiff, Nat.reduceAdd, Nat.reduceMul, Nat.reduceSub, Nat.reduceLeDiff, Nat.reduceLT, reduceCtorEq]
  intro b2 hb2
  refine aw_box1 hb2 fun B1 hs1 h2 => ?_
  have hsB := hs1
  refine aw_sr rfl ?_  -- r1 @store.go:168
  simp only [go_sem, reduceIte, Nat.reduceEqDiff, Nat.reduceAdd, Nat.reduceMul, Nat.reduceSub, Nat.reduceLeDiff, Nat.reduceLT, reduceCtorEq]
  refine aw_seq fun K7 hK7 => ?_
  refine aw_sr rfl ?_  -- r2 @store.go:169
  simp only [go_sem, reduceIte, Nat.reduceEqDiff, Nat.reduceAdd, Nat.reduceMul, Nat.reduceSub, Nat.reduceLeDiff, Nat.reduceLT, reduceCtorEq]
  refine aw_if rfl (fun h => ?_) (fun h => ?_)
  · refine aw_sr rfl ?_  -- r3 @store.go:170
    simp only [go_sem, reduceIte, Nat.reduceEqDiff, Nat.reduceAdd, Nat.reduceMul, Nat.reduceSub, Nat.reduceLeDiff, Nat.reduceLT, reduceCtorEq, h2]
    refine goA_q q_ReadNo ?_
    simp only [go_sem, reduceIte, Nat.reduceEqDiff, Nat.reduceAdd, Nat.reduceMul, Nat.reduceSub, Nat.reduceLeDiff, Nat.reduceLT, reduceCtorEq, h2]
    have h24 := hget_hset_self (y := .vars snZ) h2
    refine aw_ret ⟨trivial, ?_⟩
    simp only [go_sem, reduceIte, Nat.reduceEqDiff, Nat.reduceAdd, Nat.reduceMul, Nat.reduceSub, Nat.reduceLeDiff, Nat.reduceLT, reduceCtorEq, resL, resOf, h24]
    refine ⟨_, rfl, ?_, sub_hset_fresh hb2 hsB⟩
    rw [readNF_no (fun z hz hzb => by have := (snap_cut hz hzb hb).1; rw [decide_eq_true_eq] at h; omega)]
    exact no_vle
  have h10 : 10 ≤ b.length := by rw [decide_eq_false_iff_not] at h; omega
  have hnf : nl = false := by cases nl with | false => rfl | true => rw [hnl rfl] at h10; simp at h10
  subst hnf
  clear hnl h
  refine aw_skip (hK7 _ _ ?_)
  refine aw_sr rfl ?_  -- r4 @store.go:172
  simp only [go_sem, reduceIte, Nat.reduceEqDiff, Nat.reduceAdd, Nat.reduceMul, Nat.reduceSub, Nat.reduceLeDiff, Nat.reduceLT, reduceCtorEq]
  intro b5 hb5
  have n25 : ¬ b2 = b5 := ne_fresh h2 hb5
  have hG5 : hget G b5 = none := none_sub hs1 hb5
  refine aw_box1 hb5 fun B2 hs2 h5 => ?_
  replace h2 := hs2 _ _ h2
  replace hsB := sub_trans hsB hs2
  refine aw_seq fun K8 hK8 => ?_
  refine aw_sr rfl ?_  -- r5 @store.go:173
  simp only [go_sem, reduceIte, Nat.reduceEqDiff, Nat.reduceAdd, Nat.reduceMul, Nat.reduceSub, Nat.reduceLeDiff, Nat.reduceLT, reduceCtorEq, show Int.toNat 8 = 8 from rfl, take_bytesV, drop_bytesV, sliceTag_no]
  refine ⟨⟨⟨by omega, by omega⟩, wid_bytes _⟩, ?_⟩
  have hl8 : (b.take 8).length = 8 := by rw [List.length_take]; omega
  rw [hl8]
  refine aw_range 8 (S := Int × Heap) (fun _ _ => [(0, .sl (bytesV b) false .no), (2, .ptr b2 0), (4, .func (.func 28) [] []), (5, .ptr b5 0), (26, .sl (bytesV (b.take 8)) false .no)]) (fun _ s => s.2)
    (fun i s => InI s.1 ∧ hget s.2 b5 = some (.vars [.int .i64 s.1, .sl [] true .full, .sl [] true .full]) ∧ hget s.2 b2 = some (.vars snZ) ∧ Sub G s.2 ∧ ∀ z, GoodN z → snapB z = b → s.1 = z.1 / 256 ^ (8 - i)) (0, B2) (by decide) ?_ (fun _ _ h => h)
    ⟨⟨by show IntKind.i64.min ≤ 0; decide, by show (0 : Int) ≤ IntKind.i64.max; decide⟩, h5, h2, hsB, fun z hz hzb => ?_⟩ rfl (fun _ _ => rfl) ?_ ?_ (by decide)
  · simp only [go_sem, reduceIte, Nat.reduceEqDiff, Nat.reduceAdd, Nat.reduceMul, Nat.reduceSub, Nat.reduceLeDiff, Nat.reduceLT, reduceCtorEq, Int.natCast_zero]
  · have hc := checkN_good hz.2.1
    have hr := i64_range hz.1.1
    rw [Int.ediv_eq_zero_of_lt hc.2.1 (Int.lt_of_le_of_lt hr.2 (by decide))]
  · intro i ⟨t, H⟩ hi ⟨i1, i2, i3, i4, i5⟩
    simp only at i1 i2 i3 i4 i5 ⊢
    have hg8 : (b.take 8).getD i 0 = b.getD i 0 := by rw [List.getD_eq_getElem?_getD, List.getD_eq_getElem?_getD, List.getElem?_take_of_lt hi]
    have hci := (b.getD i 0).toNat_lt
    refine aw_sr rfl ?_  -- r7 @store.go:173
    simp only [go_sem, reduceIte, Nat.reduceEqDiff, Nat.reduceAdd, Nat.reduceMul, Nat.reduceSub, Nat.reduceLeDiff, Nat.reduceLT, reduceCtorEq, getD_b (show i < (b.take 8).length by omega), hg8]
    refine ⟨⟨by omega, by omega, wid_bytes _⟩, ?_⟩
    refine aw_rg rfl ?_  -- r8 @store.go:174
    simp only [go_sem, reduceIte, Nat.reduceEqDiff, Nat.reduceAdd, Nat.reduceMul, Nat.reduceSub, Nat.reduceLeDiff, Nat.reduceLT, reduceCtorEq, i2, wrap_c hci, show (Int.toNat 8).min 64 = 8 from rfl]
    refine ⟨by omega, ?_⟩
    generalize hH3 : hset H b5 _ = H3
    obtain ⟨u5, hk, _, _, hS⟩ := st_facts hH3 i2 (fun _ _ e => by cases e)
    refine ⟨(_, H3), ⟨bitsI_range .or _ _, u5, hk _ _ n25 i3, hS _ hG5 i4, fun z hz hzb => ?_⟩, ?_, sub_rfl⟩
    · have hc := checkN_good hz.2.1
      have hr := i64_range hz.1.1
      obtain ⟨e1, e2, e3⟩ := time_step hc.2.1 hr.2 hi (snap_cut hz hzb hb).2.1 t (i5 z hz hzb)
      rw [← e2]
      exact time_or e1 (at0_range b i) e3
    · simp only [go_sem, reduceIte, Nat.reduceEqDiff, Nat.reduceAdd, Nat.reduceMul, Nat.reduceSub, Nat.reduceLeDiff, Nat.reduceLT, reduceCtorEq]
  intro ⟨t, H0⟩ ⟨i1, i2, i3, i4, i5⟩
  simp only at i1 i2 i3 i4 i5 ⊢
  have c8 := (b.getD 8 0).toNat_lt
  have c9 := (b.getD 9 0).toNat_lt
  refine hK8 _ _ ?_
  refine aw_srd [(0,true),(1,true),(2,true),(3,true),(4,true),(5,true),(6,true),(7,true),(8,true),(9,true),(10,true),(11,true),(12,true),(13,true),(14,true),(15,true),(16,true)] mixed rfl (by kernel_rfl) ?_  -- r10 @store.go:176
  simp only [go_sem, reduceIte, Nat.reduceEqDiff, Nat.reduceAdd, Nat.reduceMul, Nat.reduceSub, Nat.reduceLeDiff, Nat.reduceLT, reduceCtorEq, show Int.toNat 8 = 8 from rfl, show Int.toNat 9 = 9 from rfl, show Int.toNat 10 = 10 from rfl, getD_b (show 8 < b.length by omega), getD_b (show 9 < b.length by omega), wrap_c c8, wrap_c c9, take_bytesV, drop_bytesV, List.take_length, sliceTag_no, show ((List.length b : Nat) : Int).toNat = b.length from rfl]
  have hw : IntKind.i64.wrap ((((b.getD 8 0).toNat : Nat) : Int) + (((b.getD 9 0).toNat : Nat) : Int)) = (((b.getD 8 0).toNat + (b.getD 9 0).toNat : Nat) : Int) := by rw [wrap64 (by omega) (by omega)]; omega
  rw [hw]
  refine ⟨⟨⟨by omega, by omega⟩, wid_bytes _⟩, ⟨by omega, by omega, wid_bytes _⟩, ⟨by omega, by omega, wid_bytes _⟩, ?_⟩
  refine goQ_by (q_parts (b.drop 10) false ((b.getD 8 0).toNat + (b.getD 9 0).toNat) (by show _ ≤ 1048576; rw [List.length_drop]; omega) (by omega)) ?_
  have hcut : ∀ z, GoodN z → snapB z = b → (b.getD 8 0).toNat = z.2.1.1.length ∧ (b.getD 9 0).toNat = z.2.2.1.length ∧ partsP (b.drop 10) ((b.getD 8 0).toNat + (b.getD 9 0).toNat) = some (piecesN z, true) := by
    intro z hz hzb
    obtain ⟨_, _, e1, e2, _, e3⟩ := snap_cut hz hzb hb
    have e1 : (b.getD 8 0).toNat = z.2.1.1.length := by unfold at0 at e1; omega
    have e2 : (b.getD 9 0).toNat = z.2.2.1.length := by unfold at0 at e2; omega
    exact ⟨e1, e2, by rw [e1, e2]; exact e3⟩
  have hpl := partsP_len ((b.getD 8 0).toNat + (b.getD 9 0).toNat) (b.drop 10)
  rw [List.length_drop] at hpl
  generalize hn8 : (b.getD 8 0).toNat = n8 at *
  generalize hn9 : (b.getD 9 0).toNat = n9 at *
  have hnoex : ∀ (H : Heap), hget H b2 = some (.vars snZ) → Sub G H → (∀ z, GoodN z → snapB z = b → False) → ∃ y G2, Vle (.tup [.agg snZ, .int .i64 3]) y ∧ (∀ (b' : Nat) (o : AObj), hget G2 b' = some o → hget (hset H b2 (.vars snZ)) b' = some o) ∧ y = pairN (readNF b) ∧ G2 = G := by
    intro H e1 e2 e3
    refine ⟨_, G, ?_, sub_hset_fresh hb2 e2, rfl, rfl⟩
    rw [readNF_no e3]
    exact no_vle
  cases hP : partsP (b.drop 10) (n8 + n9) with
  | none =>
    simp only [go_sem, reduceIte, Nat.reduceEqDiff, Nat.reduceAdd, Nat.reduceMul, Nat.reduceSub, Nat.reduceLeDiff, Nat.reduceLT, reduceCtorEq, partsV]
    refine aw_seq fun K9 hK9 => ?_
    refine aw_sr rfl ?_  -- r11 @store.go:177
    simp only [go_sem, reduceIte, Nat.reduceEqDiff, Nat.reduceAdd, Nat.reduceMul, Nat.reduceSub, Nat.reduceLeDiff, Nat.reduceLT, reduceCtorEq]
    refine aw_if rfl (fun h => ?_) (fun h => by simp at h)
    refine aw_sr rfl ?_  -- r12 @store.go:178
    simp only [go_sem, reduceIte, Nat.reduceEqDiff, Nat.reduceAdd, Nat.reduceMul, Nat.reduceSub, Nat.reduceLeDiff, Nat.reduceLT, reduceCtorEq, i3]
    refine goA_q q_ReadNo ?_
    simp only [go_sem, reduceIte, Nat.reduceEqDiff, Nat.reduceAdd, Nat.reduceMul, Nat.reduceSub, Nat.reduceLeDiff, Nat.reduceLT, reduceCtorEq, i3]
    have h24 := hget_hset_self (y := .vars snZ) i3
    refine aw_ret ⟨trivial, ?_⟩
    simp only [go_sem, reduceIte, Nat.reduceEqDiff, Nat.reduceAdd, Nat.reduceMul, Nat.reduceSub, Nat.reduceLeDiff, Nat.reduceLT, reduceCtorEq, resL, resOf, h24]
    refine ⟨_, rfl, ?_, sub_hset_fresh hb2 i4⟩
    rw [readNF_no (fun z hz hzb => by have := (hcut z hz hzb).2.2; rw [hP] at this; cases this)]
    exact no_vle
  | some q =>
    obtain ⟨L, ok⟩ := q
    obtain ⟨hL1, hL2, hL3⟩ := hpl _ hP
    simp only at hL1 hL2 hL3
    simp only [go_sem, reduceIte, Nat.reduceEqDiff, Nat.reduceAdd, Nat.reduceMul, Nat.reduceSub, Nat.reduceLeDiff, Nat.reduceLT, reduceCtorEq, partsV]
    refine aw_seq fun K9 hK9 => ?_
    refine aw_sr rfl ?_  -- r11 @store.go:177
    simp only [go_sem, reduceIte, Nat.reduceEqDiff, Nat.reduceAdd, Nat.reduceMul, Nat.reduceSub, Nat.reduceLeDiff, Nat.reduceLT, reduceCtorEq]
    refine aw_if rfl (fun h => ?_) (fun h => ?_)
    · refine aw_sr rfl ?_  -- r12 @store.go:178
      simp only [go_sem, reduceIte, Nat.reduceEqDiff, Nat.reduceAdd, Nat.reduceMul, Nat.reduceSub, Nat.reduceLeDiff, Nat.reduceLT, reduceCtorEq, i3]
      refine goA_q q_ReadNo ?_
      simp only [go_sem, reduceIte, Nat.reduceEqDiff, Nat.reduceAdd, Nat.reduceMul, Nat.reduceSub, Nat.reduceLeDiff, Nat.reduceLT, reduceCtorEq, i3]
      have h24 := hget_hset_self (y := .vars snZ) i3
      refine aw_ret ⟨trivial, ?_⟩
      simp only [go_sem, reduceIte, Nat.reduceEqDiff, Nat.reduceAdd, Nat.reduceMul, Nat.reduceSub, Nat.reduceLeDiff, Nat.reduceLT, reduceCtorEq, resL, resOf, h24]
      refine ⟨_, rfl, ?_, sub_hset_fresh hb2 i4⟩
      rw [readNF_no (fun z hz hzb => by have := (hcut z hz hzb).2.2; rw [hP] at this; cases this; simp at h)]
      exact no_vle
    have hok : ok = true := by simpa using h
    subst hok
    have hcan : ∀ z, GoodN z → snapB z = b → n8 = z.2.1.1.length ∧ n9 = z.2.2.1.length ∧ L = piecesN z := by
      intro z hz hzb
      obtain ⟨e1, e2, e3⟩ := hcut z hz hzb
      rw [hP] at e3
      cases e3
      exact ⟨e1, e2, rfl⟩
    refine aw_skip (hK9 _ _ ?_)
    refine aw_seq fun K10 hK10 => ?_
    refine aw_sr rfl ?_  -- r13 @store.go:180
    simp only [go_sem, reduceIte, Nat.reduceEqDiff, Nat.reduceAdd, Nat.reduceMul, Nat.reduceSub, Nat.reduceLeDiff, Nat.reduceLT, reduceCtorEq]
    refine aw_range L.length (S := List Pcl × Tag × List Wyt × Tag × Heap) (fun _ _ => [(0, .sl (bytesV b) false .no), (2, .ptr b2 0), (4, .func (.func 28) [] []), (5, .ptr b5 0), (61, .sl (L.map (ePn false)) L.isEmpty .no)]) (fun _ s => s.2.2.2.2)
      (fun i s => (∀ p ∈ s.1, GoodP p) ∧ (∀ w ∈ s.2.2.1, FineW w) ∧ s.1.length + s.2.2.1.length = i ∧ s.2.2.1.length = i - n8 ∧ (i ≤ n8 → s.2.2.2.1 = .full ∧ Rm G s.2.2.2.2 8 s.2.1) ∧ Rm G s.2.2.2.2 3 s.2.2.2.1 ∧
        hget s.2.2.2.2 b5 = some (.vars [.int .i64 t, .sl (s.1.map ePcl) s.1.isEmpty s.2.1, .sl (s.2.2.1.map eWyt) s.2.2.1.isEmpty s.2.2.2.1]) ∧ hget s.2.2.2.2 b2 = some (.vars snZ) ∧ Sub G s.2.2.2.2 ∧
        ∀ z, GoodN z → snapB z = b → s.1 = z.2.1.1.take s.1.length ∧ s.2.2.1 = z.2.2.1.take s.2.2.1.length) ([], .full, [], .full, H0) (by omega) ?_ (fun _ _ h => h)
      ⟨(fun p hp => by cases hp), (fun w hw => by cases hw), rfl, by simp, fun _ => ⟨rfl, Rm.start _ _ _⟩, Rm.start _ _ _, i2, i3, i4, fun z _ _ => ⟨rfl, rfl⟩⟩ rfl (fun _ _ => rfl) ?_ ?_ (by decide)
    · simp only [go_sem, reduceIte, Nat.reduceEqDiff, Nat.reduceAdd, Nat.reduceMul, Nat.reduceSub, Nat.reduceLeDiff, Nat.reduceLT, reduceCtorEq, Int.natCast_zero]
    · intro i ⟨ps, tp, ws, tw, H⟩ hi ⟨j1, j2, j3, j4, j5, j6, j7, j8, j9, j10⟩
      simp only at j1 j2 j3 j4 j5 j6 j7 j8 j9 j10 ⊢
      have hli := hL3 _ (List.getElem_mem hi)
      refine aw_sr rfl ?_  -- r15 @store.go:180
      simp only [go_sem, reduceIte, Nat.reduceEqDiff, Nat.reduceAdd, Nat.reduceMul, Nat.reduceSub, Nat.reduceLeDiff, Nat.reduceLT, reduceCtorEq, getD_map hi, ePn]
      refine ⟨⟨by omega, by omega, wid_ePn _ _⟩, ?_⟩
      refine aw_seq fun K11 hK11 => ?_
      refine aw_sr rfl ?_  -- r16 @store.go:181
      simp only [go_sem, reduceIte, Nat.reduceEqDiff, Nat.reduceAdd, Nat.reduceMul, Nat.reduceSub, Nat.reduceLeDiff, Nat.reduceLT, reduceCtorEq, show Int.toNat 8 = 8 from rfl, getD_b (show 8 < b.length by omega), hn8, wrap_c c8]
      refine ⟨⟨by omega, by omega, wid_bytes _⟩, ?_⟩
      refine aw_if rfl (fun h => ?_) (fun h => ?_)
      · have hlt : i < n8 := by rw [decide_eq_true_eq] at h; omega
        obtain ⟨rfl, hrp⟩ := j5 (by omega)
        have hw0 : ws = [] := List.eq_nil_of_length_eq_zero (by omega)
        subst hw0
        have hpl : ps.length = i := by simpa using j3
        have hcz : ∀ z, GoodN z → snapB z = b → ∃ hp : i < z.2.1.1.length, readPF L[i] = (z.2.1.1[i], 0) := by
          intro z hz hzb
          obtain ⟨e1, e2, e3⟩ := hcan z hz hzb
          subst e3
          exact ⟨by omega, piece_par hz hi (by omega)⟩
        have hfin := readPF_fine L[i]
        have hrok := readPF_ok (b := L[i])
        generalize L[i] = x at hli hcz hfin hrok ⊢
        refine aw_sr rfl ?_  -- r17 @store.go:182
        simp only [go_sem, reduceIte, Nat.reduceEqDiff, Nat.reduceAdd, Nat.reduceMul, Nat.reduceSub, Nat.reduceLeDiff, Nat.reduceLT, reduceCtorEq]
        refine goA_q (q_ReadParcel x false (by show _ ≤ 1048576; omega)) ?_
        generalize readPF x = r at hcz hfin hrok ⊢
        simp only [go_sem, reduceIte, Nat.reduceEqDiff, Nat.reduceAdd, Nat.reduceMul, Nat.reduceSub, Nat.reduceLeDiff, Nat.reduceLT, reduceCtorEq]
        intro b12 hb12
        have n52 : ¬ b5 = b12 := ne_fresh j7 hb12
        have n22 : ¬ b2 = b12 := ne_fresh j8 hb12
        refine aw_box1 hb12 fun B3 hs3 h12 => ?_
        replace j7 := hs3 _ _ j7
        replace j8 := hs3 _ _ j8
        replace j9 := sub_trans j9 hs3
        replace hrp := hrp.sub hs3
        refine aw_seq fun K12 hK12 => ?_
        refine aw_sr rfl ?_  -- r18 @store.go:183
        simp only [go_sem, reduceIte, Nat.reduceEqDiff, Nat.reduceAdd, Nat.reduceMul, Nat.reduceSub, Nat.reduceLeDiff, Nat.reduceLT, reduceCtorEq]
        refine aw_if rfl (fun h => ?_) (fun h => ?_)
        · refine aw_sr rfl ?_  -- r19 @store.go:184
          simp only [go_sem, reduceIte, Nat.reduceEqDiff, Nat.reduceAdd, Nat.reduceMul, Nat.reduceSub, Nat.reduceLeDiff, Nat.reduceLT, reduceCtorEq, j8]
          refine goA_q q_ReadNo ?_
          simp only [go_sem, reduceIte, Nat.reduceEqDiff, Nat.reduceAdd, Nat.reduceMul, Nat.reduceSub, Nat.reduceLeDiff, Nat.reduceLT, reduceCtorEq, j8]
          have h24 := hget_hset_self (y := .vars snZ) j8
          refine aw_ret ⟨trivial, ?_⟩
          simp only [go_sem, reduceIte, Nat.reduceEqDiff, Nat.reduceAdd, Nat.reduceMul, Nat.reduceSub, Nat.reduceLeDiff, Nat.reduceLT, reduceCtorEq, resL, resOf, h24]
          refine ⟨_, rfl, ?_, sub_hset_fresh hb2 j9⟩
          rw [readNF_no (fun z hz hzb => by obtain ⟨_, e⟩ := hcz z hz hzb; rw [e] at h; simp at h)]
          exact no_vle
        have hr0 : r.2 = 0 := by simpa using h
        have hgp := (hrok hr0).1
        refine aw_skip (hK12 _ _ ?_)
        refine aw_sr rfl ?_  -- r20 @store.go:186
        simp only [go_sem, reduceIte, Nat.reduceEqDiff, Nat.reduceAdd, Nat.reduceMul, Nat.reduceSub, Nat.reduceLeDiff, Nat.reduceLT, reduceCtorEq, j7, h12]
        refine goP_rm hrp j9 ?_ fun t1 H1 hr1 hs1 hg1 => ?_
        · exact ⟨rfl, rfl, by decide, wid_ePcl _, wid_one rfl, sca_one rfl, by simp; omega, by simp; omega⟩
        have u5 := hg1.vars j7
        have u2 := hg1.vars j8
        simp only [go_sem, reduceIte, Nat.reduceEqDiff, Nat.reduceAdd, Nat.reduceMul, Nat.reduceSub, Nat.reduceLeDiff, Nat.reduceLT, reduceCtorEq, u5, Bool.and_false]
        have hsn : ps.map ePcl ++ [cPcl r.1] = (ps ++ [r.1]).map ePcl := by rw [List.map_append, List.map_cons, List.map_nil]; rfl
        rw [hsn]
        generalize hH3 : hset H1 b5 _ = H3
        obtain ⟨v5, hk, _, hRm, hS⟩ := st_facts hH3 u5 (fun _ _ e => by cases e)
        refine aw_exit ?_  -- 3
        refine ⟨(ps ++ [r.1], t1, [], .full, H3), ⟨?_, j2, by simp [hpl], by simp; omega, fun _ => ⟨rfl, hRm _ _ _ hr1⟩, Rm.start _ _ _, ?_, hk _ _ n25 u2, hS _ hG5 hs1, fun z hz hzb => ?_⟩, ?_, sub_rfl⟩
        · intro p hp
          rcases List.mem_append.1 hp with hp | hp
          · exact j1 p hp
          · rw [List.mem_singleton.1 hp]; exact hgp
        · rw [isEmpty_snoc]; exact v5
        · obtain ⟨hp, e⟩ := hcz z hz hzb
          obtain ⟨q1, q2⟩ := j10 z hz hzb
          refine ⟨?_, rfl⟩
          rw [hpl] at q1
          show ps ++ [r.1] = z.2.1.1.take (ps ++ [r.1]).length
          rw [List.length_append, List.length_singleton, hpl, List.take_succ_eq_append_getElem hp, ← q1, e]
        · simp only [go_sem, reduceIte, Nat.reduceEqDiff, Nat.reduceAdd, Nat.reduceMul, Nat.reduceSub, Nat.reduceLeDiff, Nat.reduceLT, reduceCtorEq]
      · have hge : ¬ i < n8 := by rw [decide_eq_false_iff_not] at h; omega
        refine aw_skip (hK11 _ _ ?_)
        have hcz : ∀ z, GoodN z → snapB z = b → ∃ hp : i - n8 < z.2.2.1.length, wayF L[i] = some z.2.2.1[i - n8] ∧ (scanL (L[i].drop 2)).2 = L[i].length - 2 := by
          intro z hz hzb
          obtain ⟨e1, e2, e3⟩ := hcan z hz hzb
          subst e3
          subst e1
          exact ⟨by omega, piece_way hz hi hge (by omega)⟩
        have hwf : ∀ w, wayF L[i] = some w → FineW w := fun w hw => wayF_fine (by show _ ≤ 1048576; omega) hw
        generalize hLx : L[i] = x at hli hcz hwf ⊢
        refine aw_sr rfl ?_  -- r21 @store.go:189
        simp only [go_sem, reduceIte, Nat.reduceEqDiff, Nat.reduceAdd, Nat.reduceMul, Nat.reduceSub, Nat.reduceLeDiff, Nat.reduceLT, reduceCtorEq]
        refine goA_q (q_readWay x (by show _ ≤ 1048576; omega)) ?_
        unfold wayV
        cases hW : wayF x with
        | none =>
          simp only [go_sem, reduceIte, Nat.reduceEqDiff, Nat.reduceAdd, Nat.reduceMul, Nat.reduceSub, Nat.reduceLeDiff, Nat.reduceLT, reduceCtorEq]
          intro b14 hb14
          have n52 : ¬ b5 = b14 := ne_fresh j7 hb14
          have n22 : ¬ b2 = b14 := ne_fresh j8 hb14
          refine aw_box1 hb14 fun B3 hs3 h14 => ?_
          replace j8 := hs3 _ _ j8
          replace j9 := sub_trans j9 hs3
          refine aw_seq fun K13 hK13 => ?_
          refine aw_sr rfl ?_  -- r22 @store.go:190
          simp only [go_sem, reduceIte, Nat.reduceEqDiff, Nat.reduceAdd, Nat.reduceMul, Nat.reduceSub, Nat.reduceLeDiff, Nat.reduceLT, reduceCtorEq]
          refine aw_if rfl (fun h => ?_) (fun h => by simp at h)
          refine aw_sr rfl ?_  -- r23 @store.go:191
          simp only [go_sem, reduceIte, Nat.reduceEqDiff, Nat.reduceAdd, Nat.reduceMul, Nat.reduceSub, Nat.reduceLeDiff, Nat.reduceLT, reduceCtorEq, j8]
          refine goA_q q_ReadNo ?_
          simp only [go_sem, reduceIte, Nat.reduceEqDiff, Nat.reduceAdd, Nat.reduceMul, Nat.reduceSub, Nat.reduceLeDiff, Nat.reduceLT, reduceCtorEq, j8]
          have h24 := hget_hset_self (y := .vars snZ) j8
          refine aw_ret ⟨trivial, ?_⟩
          simp only [go_sem, reduceIte, Nat.reduceEqDiff, Nat.reduceAdd, Nat.reduceMul, Nat.reduceSub, Nat.reduceLeDiff, Nat.reduceLT, reduceCtorEq, resL, resOf, h24]
          refine ⟨_, rfl, ?_, sub_hset_fresh hb2 j9⟩
          rw [readNF_no (fun z hz hzb => by obtain ⟨_, e, _⟩ := hcz z hz hzb; rw [hW] at e; cases e)]
          exact no_vle
        | some w =>
          have hfw := hwf w hW
          simp only [go_sem, reduceIte, Nat.reduceEqDiff, Nat.reduceAdd, Nat.reduceMul, Nat.reduceSub, Nat.reduceLeDiff, Nat.reduceLT, reduceCtorEq]
          intro b14 hb14
          have n52 : ¬ b5 = b14 := ne_fresh j7 hb14
          have n22 : ¬ b2 = b14 := ne_fresh j8 hb14
          refine aw_box1 hb14 fun B3 hs3 h14 => ?_
          replace j7 := hs3 _ _ j7
          replace j8 := hs3 _ _ j8
          replace j9 := sub_trans j9 hs3
          replace j6 := j6.sub hs3
          refine aw_seq fun K13 hK13 => ?_
          refine aw_sr rfl ?_  -- r22 @store.go:190
          simp only [go_sem, reduceIte, Nat.reduceEqDiff, Nat.reduceAdd, Nat.reduceMul, Nat.reduceSub, Nat.reduceLeDiff, Nat.reduceLT, reduceCtorEq]
          refine aw_if rfl (fun h => ?_) (fun h => ?_)
          · refine aw_sr rfl ?_  -- r23 @store.go:191
            simp only [go_sem, reduceIte, Nat.reduceEqDiff, Nat.reduceAdd, Nat.reduceMul, Nat.reduceSub, Nat.reduceLeDiff, Nat.reduceLT, reduceCtorEq, j8]
            refine goA_q q_ReadNo ?_
            simp only [go_sem, reduceIte, Nat.reduceEqDiff, Nat.reduceAdd, Nat.reduceMul, Nat.reduceSub, Nat.reduceLeDiff, Nat.reduceLT, reduceCtorEq, j8]
            have h24 := hget_hset_self (y := .vars snZ) j8
            refine aw_ret ⟨trivial, ?_⟩
            simp only [go_sem, reduceIte, Nat.reduceEqDiff, Nat.reduceAdd, Nat.reduceMul, Nat.reduceSub, Nat.reduceLeDiff, Nat.reduceLT, reduceCtorEq, resL, resOf, h24]
            refine ⟨_, rfl, ?_, sub_hset_fresh hb2 j9⟩
            rw [readNF_no (fun z hz hzb => by obtain ⟨_, _, e⟩ := hcz z hz hzb; rw [e] at h; simp at h)]
            exact no_vle
          refine aw_skip (hK13 _ _ ?_)
          refine aw_rg rfl ?_  -- r24 @store.go:193
          simp only [go_sem, reduceIte, Nat.reduceEqDiff, Nat.reduceAdd, Nat.reduceMul, Nat.reduceSub, Nat.reduceLeDiff, Nat.reduceLT, reduceCtorEq, j7, h14]
          refine goP_rm j6 j9 ?_ fun t1 H1 hr1 hs1 hg1 => ?_
          · exact ⟨rfl, rfl, by decide, wid_eWyt _, wid_one rfl, sca_one rfl, by simp; omega, by simp; omega⟩
          have u5 := hg1.vars j7
          have u2 := hg1.vars j8
          simp only [go_sem, reduceIte, Nat.reduceEqDiff, Nat.reduceAdd, Nat.reduceMul, Nat.reduceSub, Nat.reduceLeDiff, Nat.reduceLT, reduceCtorEq, u5, Bool.and_false]
          have hsn : ws.map eWyt ++ [cWyt w] = (ws ++ [w]).map eWyt := by rw [List.map_append, List.map_cons, List.map_nil]; rfl
          rw [hsn]
          generalize hH3 : hset H1 b5 _ = H3
          obtain ⟨v5, hk, _, hRm, hS⟩ := st_facts hH3 u5 (fun _ _ e => by cases e)
          refine ⟨(ps, tp, ws ++ [w], t1, H3), ⟨j1, ?_, by show ps.length + (ws ++ [w]).length = i + 1; rw [List.length_append, List.length_singleton]; omega, by show (ws ++ [w]).length = _; rw [List.length_append, List.length_singleton]; omega, fun e => by omega, hRm _ _ _ hr1, ?_, hk _ _ n25 u2, hS _ hG5 hs1, fun z hz hzb => ?_⟩, ?_, sub_rfl⟩
          · intro p hp
            rcases List.mem_append.1 hp with hp | hp
            · exact j2 p hp
            · rw [List.mem_singleton.1 hp]; exact hfw
          · rw [isEmpty_snoc]; exact v5
          · obtain ⟨hp, e, _⟩ := hcz z hz hzb
            obtain ⟨q1, q2⟩ := j10 z hz hzb
            refine ⟨q1, ?_⟩
            rw [hW] at e
            have e := Option.some.inj e
            rw [j4] at q2
            show ws ++ [w] = z.2.2.1.take (ws ++ [w]).length
            rw [List.length_append, List.length_singleton, j4, List.take_succ_eq_append_getElem hp, ← q2, e]
          · simp only [go_sem, reduceIte, Nat.reduceEqDiff, Nat.reduceAdd, Nat.reduceMul, Nat.reduceSub, Nat.reduceLeDiff, Nat.reduceLT, reduceCtorEq]
    intro ⟨ps, tp, ws, tw, H⟩ ⟨j1, j2, j3, j4, j5, j6, j7, j8, j9, j10⟩
    simp only at j1 j2 j3 j4 j5 j6 j7 j8 j9 j10 ⊢
    refine hK10 _ _ ?_
    have hv : FineN (t, (ps, ps.isEmpty), (ws, ws.isEmpty)) := ⟨i1, ⟨j1, by show ps.length ≤ _; omega, rfl⟩, j2, by show ws.length ≤ _; omega, rfl⟩
    have hcanz : ∀ z, GoodN z → snapB z = b → (t, (ps, ps.isEmpty), (ws, ws.isEmpty)) = z := by
      intro z hz hzb
      obtain ⟨q1, q2⟩ := j10 z hz hzb
      obtain ⟨e1, e2, _⟩ := hcan z hz hzb
      have q0 := i5 z hz hzb
      rw [Nat.sub_self, Int.pow_zero, Int.ediv_one] at q0
      have l1 : ps.length = z.2.1.1.length := by omega
      have l2 : ws.length = z.2.2.1.length := by omega
      rw [l1, List.take_length] at q1
      rw [l2, List.take_length] at q2
      obtain ⟨zt, ⟨zp, zpn⟩, zw, zwn⟩ := z
      have n1 := hz.1.2.1.2.2
      have n2 := hz.1.2.2.2.2
      simp only at q0 q1 q2 n1 n2
      rw [n1, n2, q0, q1, q2]
    refine AW.hle (ds := cSnp (t, (ps, ps.isEmpty), (ws, ws.isEmpty))) j7 (by repeat (first | exact .nil | refine .cons (Vle.refl _) ?_ | refine .cons Vle.untag ?_ | refine .cons (Vle.aggL ?_) ?_ | refine .cons (Vle.slE ?_) ?_)) ?_
    generalize hH8 : hset H b5 _ = H8
    obtain ⟨h5, hk, _, _, hS⟩ := st_facts hH8 j7 (fun _ _ e => by cases e)
    have h27 := hk _ _ n25 j8
    have hsG := hS _ hG5 j9
    clear hS hk hH8
    generalize hvv : ((t, (ps, ps.isEmpty), (ws, ws.isEmpty)) : Snp) = v at hv hcanz h5
    refine aw_seq fun K14 hK14 => ?_
    refine aw_sr rfl ?_  -- r26 @store.go:195
    simp only [go_sem, reduceIte, Nat.reduceEqDiff, Nat.reduceAdd, Nat.reduceMul, Nat.reduceSub, Nat.reduceLeDiff, Nat.reduceLT, reduceCtorEq, h5]
    refine goA_q (q_SBytes v hv.ok) ?_
    simp only [go_sem, reduceIte, Nat.reduceEqDiff, Nat.reduceAdd, Nat.reduceMul, Nat.reduceSub, Nat.reduceLeDiff, Nat.reduceLT, reduceCtorEq]
    refine aw_sr rfl ?_  -- r27 @store.go:195
    simp only [go_sem, reduceIte, Nat.reduceEqDiff, Nat.reduceAdd, Nat.reduceMul, Nat.reduceSub, Nat.reduceLeDiff, Nat.reduceLT, reduceCtorEq]
    refine goH_q (fun hg => q_bytesEqual (snapR v).1.1 b (snapR v).1.2 false .no .no) ?_
    simp only [go_sem, reduceIte, Nat.reduceEqDiff, Nat.reduceAdd, Nat.reduceMul, Nat.reduceSub, Nat.reduceLeDiff, Nat.reduceLT, reduceCtorEq]
    refine aw_if rfl (fun h => ?_) (fun h => ?_)
    · refine aw_sr rfl ?_  -- r28 @store.go:196
      simp only [go_sem, reduceIte, Nat.reduceEqDiff, Nat.reduceAdd, Nat.reduceMul, Nat.reduceSub, Nat.reduceLeDiff, Nat.reduceLT, reduceCtorEq, h27]
      refine goA_q q_ReadNo ?_
      simp only [go_sem, reduceIte, Nat.reduceEqDiff, Nat.reduceAdd, Nat.reduceMul, Nat.reduceSub, Nat.reduceLeDiff, Nat.reduceLT, reduceCtorEq, h27]
      have h24 := hget_hset_self (y := .vars snZ) h27
      refine aw_ret ⟨trivial, ?_⟩
      simp only [go_sem, reduceIte, Nat.reduceEqDiff, Nat.reduceAdd, Nat.reduceMul, Nat.reduceSub, Nat.reduceLeDiff, Nat.reduceLT, reduceCtorEq, resL, resOf, h24]
      refine ⟨_, rfl, ?_, sub_hset_fresh hb2 hsG⟩
      rw [readNF_no (fun z hz hzb => by
        have e := hcanz z hz hzb
        subst e
        rw [snapR_good hz] at h
        simp [hzb] at h)]
      exact no_vle
    refine aw_skip (hK14 _ _ ?_)
    refine aw_sr rfl ?_  -- r29 @store.go:198
    simp only [go_sem, reduceIte, Nat.reduceEqDiff, Nat.reduceAdd, Nat.reduceMul, Nat.reduceSub, Nat.reduceLeDiff, Nat.reduceLT, reduceCtorEq, h27, h5]
    have h24 := hget_hset_self (y := .vars (cSnp v)) h27
    refine aw_ret ⟨trivial, ?_⟩
    simp only [go_sem, reduceIte, Nat.reduceEqDiff, Nat.reduceAdd, Nat.reduceMul, Nat.reduceSub, Nat.reduceLeDiff, Nat.reduceLT, reduceCtorEq, resL, resOf, h24]
    refine ⟨_, rfl, ?_, sub_hset_fresh hb2 hsG⟩
    have hd : (snapR v).2 = 0 ∧ (snapR v).1.1 = b := by
      by_cases g3 : (snapR v).2 = 0 <;> by_cases g4 : (snapR v).1.1 = b <;> simp [g3, g4] at h ⊢
    obtain ⟨o1, o2, o3⟩ := snapR_ok hd.1 hd.2
    rw [readNF_yes (v := v) ⟨hv, o1, o2⟩ o3 hcanz]
    exact Vle.refl _
end Go.Proofs.YtlgfffngojlffaaGreat

/- The parts that bytes are, the reference's. No conditions. -/
set_option linter.unusedSimpArgs false
set_option linter.unusedVariables false
namespace Go.Proofs.YtlgfffngojlffaaGreat
open Go.Proofs.YtlgfffngojlffaaGreatV
set_option maxHeartbeats 400000
set_option maxRecDepth 100000
def longsV : Option (List (List UInt8)) → V
  | none => .tup [.sl [] true .no, .bool false]
  | some l => .tup [.sl (l.map eStr) l.isEmpty .no, .bool true]
theorem wid_eStr (xs : List (List UInt8)) : wid 1 (xs.map eStr) := wid_map (g := eStr) (fun _ => rfl) _
theorem n4_mul (b : List UInt8) : IntKind.i64.wrap (IntKind.i64.wrap (IntKind.i64.wrap (IntKind.i64.wrap (IntKind.i64.wrap (IntKind.i64.wrap (((b.getD 0 0).toNat : Int) * 256) + ((b.getD 1 0).toNat : Int)) * 256) + ((b.getD 2 0).toNat : Int)) * 256) + ((b.getD 3 0).toNat : Int)) = ((n4 b : Nat) : Int) := by
  have h0 := (b.getD 0 0).toNat_lt
  have h1 := (b.getD 1 0).toNat_lt
  have h2 := (b.getD 2 0).toNat_lt
  have h3 := (b.getD 3 0).toNat_lt
  unfold n4
  generalize (b.getD 0 0).toNat = x at *
  generalize (b.getD 1 0).toNat = y at *
  generalize (b.getD 2 0).toNat = z at *
  generalize (b.getD 3 0).toNat = w at *
  rw [wrap64 (n := (x : Int) * 256) (by omega) (by omega), wrap64 (n := (x : Int) * 256 + y) (by omega) (by omega), wrap64 (n := ((x : Int) * 256 + y) * 256) (by omega) (by omega), wrap64 (n := ((x : Int) * 256 + y) * 256 + z) (by omega) (by omega), wrap64 (n := (((x : Int) * 256 + y) * 256 + z) * 256) (by omega) (by omega), wrap64 (by omega) (by omega)]
  omega
theorem q_longs (b : List UInt8) (nl : Bool) (hb : b.length ≤ bulk) : Quiet Tryz.prog 33 [.sl (bytesV b) nl .no] (longsV (splitL b)) := by
  have hbl : b.length ≤ 1048576 := hb
  refine Quiet.weak fun G => ?_
  refine acall_body (rs := [.tmp 2, .tmp 3]) Tryz.func33 rfl rfl Tryz.ntmps33 (by kernel_rfl) (Nat.le_of_ble_eq_true rfl) ?_
  refine aw_sr rfl ?_  -- r0 @keep.go:324
  simp only [go_sem, reduceIte, Nat.reduceEqDiff, Nat.reduceAdd, Nat.reduceMul, Nat.reduceSub, Nat.reduceLeDiff, Nat.reduceLT, reduceCtorEq]
  refine aw_sr rfl ?_  -- r1 @keep.go:325
  simp only [go_sem, reduceIte, Nat.reduceEqDiff, Nat.reduceAdd, Nat.reduceMul, Nat.reduceSub, Nat.reduceLeDiff, Nat.reduceLT, reduceCtorEq]
  refine aw_seq fun K15 hK15 => ?_
  refine aw_block ?_  -- 0
  refine aw_lph (S := {s : List UInt8 × List (List UInt8) × Tag × Heap // splitL b = (splitL s.1).map (fun q => s.2.1 ++ q) ∧ s.1.length + s.2.1.length ≤ b.length ∧ Rm G s.2.2.2 1 s.2.2.1 ∧ Sub G s.2.2.2})
    (fun s => [(0, .sl (bytesV s.1.1) nl .no), (4, .sl (s.1.2.1.map eStr) s.1.2.1.isEmpty s.1.2.2.1)]) (fun s => s.1.2.2.2) (fun s => s.1.1.length) ⟨(b, [], .full, G), by cases splitL b <;> simp, by simp, Rm.start _ _ _, sub_rfl⟩ ?_ (fun _ _ h => h) ?_
  · simp only [go_sem, reduceIte, Nat.reduceEqDiff, Nat.reduceAdd, Nat.reduceMul, Nat.reduceSub, Nat.reduceLeDiff, Nat.reduceLT, reduceCtorEq]
  intro ⟨⟨rs, out, t, H⟩, i1, i2, i4, i5⟩
  simp only at i1 i2 i4 i5 ⊢
  refine aw_seq fun K16 hK16 => ?_
  refine aw_sr rfl ?_  -- r2 @keep.go:326
  simp only [go_sem, reduceIte, Nat.reduceEqDiff, Nat.reduceAdd, Nat.reduceMul, Nat.reduceSub, Nat.reduceLeDiff, Nat.reduceLT, reduceCtorEq]
  refine aw_if rfl (fun h => ?_) (fun h => ?_)
  · have hne : ¬ rs = [] := by intro e; subst e; simp at h
    have hu : splitL rs = if h1 : rs.length < 4 then none else if rs.length - 4 < n4 rs then none else (splitL (rs.drop (4 + n4 rs))).map fun l => (rs.drop 4).take (n4 rs) :: l := by rw [splitL, dif_neg hne]
    rw [hu] at i1
    refine aw_skip (hK16 _ _ ?_)
    refine aw_block ?_  -- 1
    refine aw_seq fun K17 hK17 => ?_
    refine aw_sr rfl ?_  -- r3 @keep.go:327
    simp only [go_sem, reduceIte, Nat.reduceEqDiff, Nat.reduceAdd, Nat.reduceMul, Nat.reduceSub, Nat.reduceLeDiff, Nat.reduceLT, reduceCtorEq]
    refine aw_if rfl (fun h => ?_) (fun h => ?_)
    · rw [dif_pos (by rw [decide_eq_true_eq] at h; omega)] at i1
      refine aw_sr rfl ?_  -- r4 @keep.go:328
      simp only [go_sem, reduceIte, Nat.reduceEqDiff, Nat.reduceAdd, Nat.reduceMul, Nat.reduceSub, Nat.reduceLeDiff, Nat.reduceLT, reduceCtorEq]
      refine aw_ret ⟨trivial, _, rfl, ?_, i5⟩
      rw [i1]
      exact Vle.tupL (.cons Vle.untag (.cons (Vle.refl _) .nil))
    have h4 : 4 ≤ rs.length := by rw [decide_eq_false_iff_not] at h; omega
    rw [dif_neg (by omega)] at i1
    refine aw_skip (hK17 _ _ ?_)
    have h0 := (rs.getD 0 0).toNat_lt
    have h1 := (rs.getD 1 0).toNat_lt
    have h2 := (rs.getD 2 0).toNat_lt
    have h3 := (rs.getD 3 0).toNat_lt
    have hn4 := n4_lt rs
    refine aw_srd [(0,true),(1,true),(2,true),(3,true),(4,true),(5,true),(6,true),(7,true),(8,true),(9,true),(10,true),(11,true),(12,true),(13,true),(14,true),(15,true),(16,true),(17,true),(18,true),(19,true),(20,true),(21,true),(22,true)] mixed rfl (by kernel_rfl) ?_  -- r5
    simp only [go_sem, reduceIte, Nat.reduceEqDiff, Nat.reduceAdd, Nat.reduceMul, Nat.reduceSub, Nat.reduceLeDiff, Nat.reduceLT, reduceCtorEq, Int.toNat_zero, toNat1, toNat2, show Int.toNat 3 = 3 from rfl, getD_b (show 0 < rs.length by omega), getD_b (show 1 < rs.length by omega), getD_b (show 2 < rs.length by omega), getD_b (show 3 < rs.length by omega), wrap_c h0, wrap_c h1, wrap_c h2, wrap_c h3, n4_mul]
    refine ⟨⟨by omega, by omega, wid_bytes _⟩, ⟨by omega, by omega, wid_bytes _⟩, ⟨by omega, by omega, wid_bytes _⟩, ⟨by omega, by omega, wid_bytes _⟩, ?_⟩
    refine aw_seq fun K18 hK18 => ?_
    refine aw_sr rfl ?_  -- r6 @keep.go:331
    simp only [go_sem, reduceIte, Nat.reduceEqDiff, Nat.reduceAdd, Nat.reduceMul, Nat.reduceSub, Nat.reduceLeDiff, Nat.reduceLT, reduceCtorEq, show IntKind.i64.wrap ((rs.length : Int) - 4) = ((rs.length - 4 : Nat) : Int) by rw [wrap64 (by omega) (by omega)]; omega]
    refine aw_if rfl (fun h => ?_) (fun h => ?_)
    · rw [if_pos (by rw [decide_eq_true_eq] at h; omega)] at i1
      refine aw_sr rfl ?_  -- r7 @keep.go:332
      simp only [go_sem, reduceIte, Nat.reduceEqDiff, Nat.reduceAdd, Nat.reduceMul, Nat.reduceSub, Nat.reduceLeDiff, Nat.reduceLT, reduceCtorEq]
      refine aw_ret ⟨trivial, _, rfl, ?_, i5⟩
      rw [i1]
      exact Vle.tupL (.cons Vle.untag (.cons (Vle.refl _) .nil))
    have hfit : ¬ rs.length - 4 < n4 rs := by rw [decide_eq_false_iff_not] at h; omega
    rw [if_neg hfit] at i1
    have hw2 : IntKind.i64.wrap (4 + ((n4 rs : Nat) : Int)) = ((4 + n4 rs : Nat) : Int) := by rw [wrap64 (by omega) (by omega)]; omega
    refine aw_skip (hK18 _ _ ?_)
    refine aw_sr rfl ?_  -- r8 @keep.go:334
    simp only [go_sem, reduceIte, Nat.reduceEqDiff, Nat.reduceAdd, Nat.reduceMul, Nat.reduceSub, Nat.reduceLeDiff, Nat.reduceLT, reduceCtorEq, hw2, show Int.toNat 4 = 4 from rfl, take_bytesV, drop_bytesV, sliceTag_no, unb_bytesV]
    refine ⟨⟨⟨by omega, by omega, by omega⟩, wid_bytes _⟩, ?_⟩
    refine goP_rm i4 i5 ?_ fun t1 H1 hr1 hs1 hg1 => ?_
    · exact ⟨rfl, rfl, by decide, wid_eStr _, wid_one rfl, sca_one rfl, by simp; omega, by simp; omega⟩
    simp only [go_sem, reduceIte, Nat.reduceEqDiff, Nat.reduceAdd, Nat.reduceMul, Nat.reduceSub, Nat.reduceLeDiff, Nat.reduceLT, reduceCtorEq]
    refine aw_rg rfl ?_  -- r9 @keep.go:335
    simp only [go_sem, reduceIte, Nat.reduceEqDiff, Nat.reduceAdd, Nat.reduceMul, Nat.reduceSub, Nat.reduceLeDiff, Nat.reduceLT, reduceCtorEq, hw2, List.take_length, drop_bytesV, sliceTag_no, show ((List.length rs : Nat) : Int).toNat = rs.length from rfl]
    refine ⟨⟨⟨by omega, by omega⟩, wid_bytes _⟩, ?_⟩
    refine ⟨⟨(rs.drop (4 + n4 rs), out ++ [(rs.drop 4).take (n4 rs)], t1, H1), ?_, by show (rs.drop _).length + (out ++ [_]).length ≤ _; rw [List.length_drop, List.length_append, List.length_singleton]; omega, hr1, hs1⟩, by show (rs.drop _).length < _; rw [List.length_drop]; omega, ?_, sub_rfl⟩
    · rw [i1]
      cases splitL (rs.drop (4 + n4 rs)) <;> simp
    · simp only [go_sem, reduceIte, Nat.reduceEqDiff, Nat.reduceAdd, Nat.reduceMul, Nat.reduceSub, Nat.reduceLeDiff, Nat.reduceLT, reduceCtorEq]
      rw [isEmpty_snoc, List.map_append, List.map_cons, List.map_nil, eStr, List.drop_take, Nat.add_sub_cancel_left]
      try simp
  · have he : rs = [] := by
      cases rs with
      | nil => rfl
      | cons a l => rw [decide_eq_false_iff_not, List.length_cons] at h; omega
    subst he
    have hu : splitL [] = some [] := by rw [splitL, dif_pos rfl]
    rw [hu] at i1
    refine aw_exit ?_  -- 0
    refine hK15 _ _ ?_
    refine aw_sr rfl ?_  -- r10 @keep.go:337
    simp only [go_sem, reduceIte, Nat.reduceEqDiff, Nat.reduceAdd, Nat.reduceMul, Nat.reduceSub, Nat.reduceLeDiff, Nat.reduceLT, reduceCtorEq]
    refine aw_ret ⟨trivial, _, rfl, ?_, i5⟩
    rw [i1]
    simp only [Option.map_some, List.append_nil, longsV]
    exact Vle.tupL (.cons Vle.untag (.cons (Vle.refl _) .nil))
end Go.Proofs.YtlgfffngojlffaaGreat

/- SnapOf: as Read; the reference's. No conditions. -/
set_option linter.unusedSimpArgs false
set_option linter.unusedVariables false
namespace Go.Proofs.YtlgfffngojlffaaGreat
open Go.Proofs.YtlgfffngojlffaaGreatV
set_option maxHeartbeats 400000
set_option maxRecDepth 100000
theorem time_mul {t c : Int} (h0 : 0 ≤ t) (hc : 0 ≤ c ∧ c ≤ 255) (h : t * 256 + c ≤ 9223372036854775807) : IntKind.i64.wrap (IntKind.i64.wrap (t * 256) + c) = t * 256 + c := by
  rw [wrap64 (n := t * 256) (by omega) (by omega), wrap64 (by omega) (by omega)]
theorem q_SnapOf (b : List UInt8) (nl : Bool) (hb : b.length ≤ bulk) : Quiet Tryz.prog 11 [.sl (bytesV b) nl .no] (pairN (readNF b)) := by
  have hbl : b.length ≤ 1048576 := hb
  refine Quiet.weak fun G => ?_
  refine acall_body (rs := [.cell 2 26, .tmp 3]) Tryz.func11 rfl rfl Tryz.ntmps11 (by kernel_rfl) (Nat.le_of_ble_eq_true rfl) ?_
  refine aw_sr rfl ?_  -- r0 @keep.go:341
  simp only [go_sem, reduceIte, Nat.reduceEqDiff, Nat.reduceAdd, Nat.reduceMul, Nat.reduceSub, Nat.reduceLeDiff, Nat.reduceLT, reduceCtorEq]
  intro b2 hb2
  refine aw_box1 hb2 fun B1 hs1 h2 => ?_
  have hsB := hs1
  refine aw_sr rfl ?_  -- r1 @keep.go:342
  simp only [go_sem, reduceIte, Nat.reduceEqDiff, Nat.reduceAdd, Nat.reduceMul, Nat.reduceSub, Nat.reduceLeDiff, Nat.reduceLT, reduceCtorEq]
  intro b4 hb4
  have n24 : ¬ b2 = b4 := ne_fresh h2 hb4
  have hG4 : hget G b4 = none := none_sub hs1 hb4
  refine aw_box1 hb4 fun B2 hs2 h4 => ?_
  replace h2 := hs2 _ _ h2
  replace hsB := sub_trans hsB hs2
  refine aw_seq fun K19 hK19 => ?_
  refine aw_sr rfl ?_  -- r2 @keep.go:343
  simp only [go_sem, reduceIte, Nat.reduceEqDiff, Nat.reduceAdd, Nat.reduceMul, Nat.reduceSub, Nat.reduceLeDiff, Nat.reduceLT, reduceCtorEq]
  refine aw_if rfl (fun h => ?_) (fun h => ?_)
  · refine aw_sr rfl ?_  -- r3 @keep.go:344
    simp only [go_sem, reduceIte, Nat.reduceEqDiff, Nat.reduceAdd, Nat.reduceMul, Nat.reduceSub, Nat.reduceLeDiff, Nat.reduceLT, reduceCtorEq, h2, h4]
    have h24 := hget_hset_self (y := .vars snZ) h2
    refine aw_ret ⟨trivial, ?_⟩
    simp only [go_sem, reduceIte, Nat.reduceEqDiff, Nat.reduceAdd, Nat.reduceMul, Nat.reduceSub, Nat.reduceLeDiff, Nat.reduceLT, reduceCtorEq, resL, resOf, h24]
    refine ⟨_, rfl, ?_, sub_hset_fresh hb2 hsB⟩
    rw [readNF_no (fun z hz hzb => by have := (snap_cut hz hzb hb).1; rw [decide_eq_true_eq] at h; omega)]
    exact no_vle
  have h10 : 10 ≤ b.length := by rw [decide_eq_false_iff_not] at h; omega
  clear h
  refine aw_skip (hK19 _ _ ?_)
  refine aw_sr rfl ?_  -- r4 @keep.go:346
  simp only [go_sem, reduceIte, Nat.reduceEqDiff, Nat.reduceAdd, Nat.reduceMul, Nat.reduceSub, Nat.reduceLeDiff, Nat.reduceLT, reduceCtorEq, show Int.toNat 10 = 10 from rfl, take_bytesV, drop_bytesV, List.take_length, sliceTag_no, show ((List.length b : Nat) : Int).toNat = b.length from rfl]
  refine ⟨⟨⟨by omega, by omega⟩, wid_bytes _⟩, ?_⟩
  refine goA_q (q_longs (b.drop 10) nl (by show _ ≤ 1048576; rw [List.length_drop]; omega)) ?_
  have c8 := (b.getD 8 0).toNat_lt
  have c9 := (b.getD 9 0).toNat_lt
  have hcut : ∀ z, GoodN z → snapB z = b → (b.getD 8 0).toNat = z.2.1.1.length ∧ (b.getD 9 0).toNat = z.2.2.1.length ∧ splitL (b.drop 10) = some (piecesN z) := by
    intro z hz hzb
    obtain ⟨_, _, e1, e2, e3, _⟩ := snap_cut hz hzb hb
    have e1 : (b.getD 8 0).toNat = z.2.1.1.length := by unfold at0 at e1; omega
    have e2 : (b.getD 9 0).toNat = z.2.2.1.length := by unfold at0 at e2; omega
    exact ⟨e1, e2, e3⟩
  have hpl := splitL_len _ (b.drop 10) (Nat.le_refl _)
  rw [List.length_drop] at hpl
  have hw : IntKind.i64.wrap ((((b.getD 8 0).toNat : Nat) : Int) + (((b.getD 9 0).toNat : Nat) : Int)) = (((b.getD 8 0).toNat + (b.getD 9 0).toNat : Nat) : Int) := by rw [wrap64 (by omega) (by omega)]; omega
  cases hP : splitL (b.drop 10) with
  | none =>
    simp only [go_sem, reduceIte, Nat.reduceEqDiff, Nat.reduceAdd, Nat.reduceMul, Nat.reduceSub, Nat.reduceLeDiff, Nat.reduceLT, reduceCtorEq, longsV]
    refine aw_seq fun K20 hK20 => ?_
    refine aw_srd [(0,true),(1,true),(2,true),(3,true),(4,true),(5,true),(6,true),(7,true),(8,true),(9,true),(10,true),(11,true),(12,true),(13,true),(14,true),(15,true)] mixed rfl (by kernel_rfl) ?_  -- r5 @keep.go:347
    simp only [go_sem, reduceIte, Nat.reduceEqDiff, Nat.reduceAdd, Nat.reduceMul, Nat.reduceSub, Nat.reduceLeDiff, Nat.reduceLT, reduceCtorEq, show Int.toNat 8 = 8 from rfl, show Int.toNat 9 = 9 from rfl, getD_b (show 8 < b.length by omega), getD_b (show 9 < b.length by omega)]
    refine ⟨fun e => by simp at e, fun e => by simp at e, ?_⟩
    refine aw_if rfl (fun h => ?_) (fun h => by simp at h)
    refine aw_sr rfl ?_  -- r6 @keep.go:348
    simp only [go_sem, reduceIte, Nat.reduceEqDiff, Nat.reduceAdd, Nat.reduceMul, Nat.reduceSub, Nat.reduceLeDiff, Nat.reduceLT, reduceCtorEq, h2, h4]
    have h24 := hget_hset_self (y := .vars snZ) h2
    refine aw_ret ⟨trivial, ?_⟩
    simp only [go_sem, reduceIte, Nat.reduceEqDiff, Nat.reduceAdd, Nat.reduceMul, Nat.reduceSub, Nat.reduceLeDiff, Nat.reduceLT, reduceCtorEq, resL, resOf, h24]
    refine ⟨_, rfl, ?_, sub_hset_fresh hb2 hsB⟩
    rw [readNF_no (fun z hz hzb => by have := (hcut z hz hzb).2.2; rw [hP] at this; cases this)]
    exact no_vle
  | some L =>
    obtain ⟨hL1, hL3⟩ := hpl L hP
    simp only [go_sem, reduceIte, Nat.reduceEqDiff, Nat.reduceAdd, Nat.reduceMul, Nat.reduceSub, Nat.reduceLeDiff, Nat.reduceLT, reduceCtorEq, longsV]
    refine aw_seq fun K20 hK20 => ?_
    refine aw_srd [(0,true),(1,true),(2,true),(3,true),(4,true),(5,true),(6,true),(7,true),(8,true),(9,true),(10,true),(11,true),(12,true),(13,true),(14,true),(15,true)] mixed rfl (by kernel_rfl) ?_  -- r5 @keep.go:347
    simp only [go_sem, reduceIte, Nat.reduceEqDiff, Nat.reduceAdd, Nat.reduceMul, Nat.reduceSub, Nat.reduceLeDiff, Nat.reduceLT, reduceCtorEq, show Int.toNat 8 = 8 from rfl, show Int.toNat 9 = 9 from rfl, getD_b (show 8 < b.length by omega), getD_b (show 9 < b.length by omega), wrap_c c8, wrap_c c9, hw]
    refine ⟨fun _ => ⟨by omega, by omega, wid_bytes _⟩, fun _ => ⟨by omega, by omega, wid_bytes _⟩, ?_⟩
    generalize hn8 : (b.getD 8 0).toNat = n8 at *
    generalize hn9 : (b.getD 9 0).toNat = n9 at *
    refine aw_if rfl (fun h => ?_) (fun h => ?_)
    · refine aw_sr rfl ?_  -- r6 @keep.go:348
      simp only [go_sem, reduceIte, Nat.reduceEqDiff, Nat.reduceAdd, Nat.reduceMul, Nat.reduceSub, Nat.reduceLeDiff, Nat.reduceLT, reduceCtorEq, h2, h4]
      have h24 := hget_hset_self (y := .vars snZ) h2
      refine aw_ret ⟨trivial, ?_⟩
      simp only [go_sem, reduceIte, Nat.reduceEqDiff, Nat.reduceAdd, Nat.reduceMul, Nat.reduceSub, Nat.reduceLeDiff, Nat.reduceLT, reduceCtorEq, resL, resOf, h24]
      refine ⟨_, rfl, ?_, sub_hset_fresh hb2 hsB⟩
      rw [readNF_no (fun z hz hzb => by
        obtain ⟨e1, e2, e3⟩ := hcut z hz hzb
        rw [hP] at e3
        cases e3
        simp only [piecesN, List.length_append, List.length_map] at h
        rw [e1, e2] at h
        simp at h)]
      exact no_vle
    have hLn : L.length = n8 + n9 := by
      simp at h
      omega
    have hcan : ∀ z, GoodN z → snapB z = b → n8 = z.2.1.1.length ∧ n9 = z.2.2.1.length ∧ L = piecesN z := by
      intro z hz hzb
      obtain ⟨e1, e2, e3⟩ := hcut z hz hzb
      rw [hP] at e3
      cases e3
      exact ⟨e1, e2, rfl⟩
    clear h
    refine aw_skip (hK20 _ _ ?_)
    refine aw_sr rfl ?_  -- r7 @keep.go:350
    simp only [go_sem, reduceIte, Nat.reduceEqDiff, Nat.reduceAdd, Nat.reduceMul, Nat.reduceSub, Nat.reduceLeDiff, Nat.reduceLT, reduceCtorEq]
    intro b7 hb7
    have n27 : ¬ b2 = b7 := ne_fresh h2 hb7
    have n47 : ¬ b4 = b7 := ne_fresh h4 hb7
    have hG7 : hget G b7 = none := none_sub hsB hb7
    refine aw_box1 hb7 fun B3 hs3 h7 => ?_
    replace h2 := hs3 _ _ h2
    replace h4 := hs3 _ _ h4
    replace hsB := sub_trans hsB hs3
    refine aw_seq fun K21 hK21 => ?_
    refine aw_sr rfl ?_  -- r8 @keep.go:351
    simp only [go_sem, reduceIte, Nat.reduceEqDiff, Nat.reduceAdd, Nat.reduceMul, Nat.reduceSub, Nat.reduceLeDiff, Nat.reduceLT, reduceCtorEq, show Int.toNat 8 = 8 from rfl, take_bytesV, drop_bytesV, sliceTag_no]
    refine ⟨⟨⟨by omega, by omega⟩, wid_bytes _⟩, ?_⟩
    have hl8 : (b.take 8).length = 8 := by rw [List.length_take]; omega
    rw [hl8]
    refine aw_range 8 (S := Int × Heap) (fun _ _ => [(0, .sl (bytesV b) nl .no), (2, .ptr b2 0), (4, .ptr b4 0), (5, .sl (L.map eStr) L.isEmpty .no), (7, .ptr b7 0), (53, .sl (bytesV (b.take 8)) nl .no)]) (fun _ s => s.2)
      (fun i s => InI s.1 ∧ hget s.2 b7 = some (.vars [.int .i64 s.1, .sl [] true .full, .sl [] true .full]) ∧ hget s.2 b2 = some (.vars snZ) ∧ hget s.2 b4 = some (.vars snZ) ∧ Sub G s.2 ∧ ∀ z, GoodN z → snapB z = b → s.1 = z.1 / 256 ^ (8 - i)) (0, B3) (by decide) ?_ (fun _ _ h => h)
      ⟨⟨by show IntKind.i64.min ≤ 0; decide, by show (0 : Int) ≤ IntKind.i64.max; decide⟩, h7, h2, h4, hsB, fun z hz hzb => ?_⟩ rfl (fun _ _ => rfl) ?_ ?_ (by decide)
    · simp only [go_sem, reduceIte, Nat.reduceEqDiff, Nat.reduceAdd, Nat.reduceMul, Nat.reduceSub, Nat.reduceLeDiff, Nat.reduceLT, reduceCtorEq, Int.natCast_zero]
    · have hc := checkN_good hz.2.1
      have hr := i64_range hz.1.1
      rw [Int.ediv_eq_zero_of_lt hc.2.1 (Int.lt_of_le_of_lt hr.2 (by decide))]
    · intro i ⟨t, H⟩ hi ⟨i1, i2, i3, i6, i4, i5⟩
      simp only at i1 i2 i3 i6 i4 i5 ⊢
      have hg8 : (b.take 8).getD i 0 = b.getD i 0 := by rw [List.getD_eq_getElem?_getD, List.getD_eq_getElem?_getD, List.getElem?_take_of_lt hi]
      have hci := (b.getD i 0).toNat_lt
      refine aw_sr rfl ?_  -- r10 @keep.go:351
      simp only [go_sem, reduceIte, Nat.reduceEqDiff, Nat.reduceAdd, Nat.reduceMul, Nat.reduceSub, Nat.reduceLeDiff, Nat.reduceLT, reduceCtorEq, getD_b (show i < (b.take 8).length by omega), hg8]
      refine ⟨⟨by omega, by omega, wid_bytes _⟩, ?_⟩
      refine aw_rg rfl ?_  -- r11 @keep.go:352
      simp only [go_sem, reduceIte, Nat.reduceEqDiff, Nat.reduceAdd, Nat.reduceMul, Nat.reduceSub, Nat.reduceLeDiff, Nat.reduceLT, reduceCtorEq, i2, wrap_c hci]
      generalize hH3 : hset H b7 _ = H3
      obtain ⟨u5, hk, _, _, hS⟩ := st_facts hH3 i2 (fun _ _ e => by cases e)
      refine ⟨(_, H3), ⟨wrapI_range _, u5, hk _ _ n27 i3, hk _ _ n47 i6, hS _ hG7 i4, fun z hz hzb => ?_⟩, ?_, sub_rfl⟩
      · have hc := checkN_good hz.2.1
        have hr := i64_range hz.1.1
        obtain ⟨e1, e2, e3⟩ := time_step hc.2.1 hr.2 hi (snap_cut hz hzb hb).2.1 t (i5 z hz hzb)
        rw [← e2]
        exact time_mul e1 (at0_range b i) e3
      · simp only [go_sem, reduceIte, Nat.reduceEqDiff, Nat.reduceAdd, Nat.reduceMul, Nat.reduceSub, Nat.reduceLeDiff, Nat.reduceLT, reduceCtorEq]
    intro ⟨t, H0⟩ ⟨i1, i2, i3, i6, i4, i5⟩
    simp only at i1 i2 i3 i6 i4 i5 ⊢
    refine hK21 _ _ ?_
    refine aw_seq fun K22 hK22 => ?_
    refine aw_sr rfl ?_  -- r13 @keep.go:354
    simp only [go_sem, reduceIte, Nat.reduceEqDiff, Nat.reduceAdd, Nat.reduceMul, Nat.reduceSub, Nat.reduceLeDiff, Nat.reduceLT, reduceCtorEq]
    refine aw_range L.length (S := List Pcl × Tag × List Wyt × Tag × Heap) (fun _ _ => [(0, .sl (bytesV b) nl .no), (2, .ptr b2 0), (4, .ptr b4 0), (7, .ptr b7 0), (67, .sl (L.map eStr) L.isEmpty .no)]) (fun _ s => s.2.2.2.2)
      (fun i s => (∀ p ∈ s.1, GoodP p) ∧ (∀ w ∈ s.2.2.1, FineW w) ∧ s.1.length + s.2.2.1.length = i ∧ s.2.2.1.length = i - n8 ∧ (i ≤ n8 → s.2.2.2.1 = .full ∧ Rm G s.2.2.2.2 8 s.2.1) ∧ Rm G s.2.2.2.2 3 s.2.2.2.1 ∧
        hget s.2.2.2.2 b7 = some (.vars [.int .i64 t, .sl (s.1.map ePcl) s.1.isEmpty s.2.1, .sl (s.2.2.1.map eWyt) s.2.2.1.isEmpty s.2.2.2.1]) ∧ hget s.2.2.2.2 b2 = some (.vars snZ) ∧ hget s.2.2.2.2 b4 = some (.vars snZ) ∧ Sub G s.2.2.2.2 ∧
        ∀ z, GoodN z → snapB z = b → s.1 = z.2.1.1.take s.1.length ∧ s.2.2.1 = z.2.2.1.take s.2.2.1.length) ([], .full, [], .full, H0) (by omega) ?_ (fun _ _ h => h)
      ⟨(fun p hp => by cases hp), (fun w hw => by cases hw), rfl, by simp, fun _ => ⟨rfl, Rm.start _ _ _⟩, Rm.start _ _ _, i2, i3, i6, i4, fun z _ _ => ⟨rfl, rfl⟩⟩ rfl (fun _ _ => rfl) ?_ ?_ (by decide)
    · simp only [go_sem, reduceIte, Nat.reduceEqDiff, Nat.reduceAdd, Nat.reduceMul, Nat.reduceSub, Nat.reduceLeDiff, Nat.reduceLT, reduceCtorEq, Int.natCast_zero]
    · intro i ⟨ps, tp, ws, tw, H⟩ hi ⟨j1, j2, j3, j4, j5, j6, j7, j8, jj, j9, j10⟩
      simp only at j1 j2 j3 j4 j5 j6 j7 j8 jj j9 j10 ⊢
      have hli := hL3 _ (List.getElem_mem hi)
      refine aw_sr rfl ?_  -- r15 @keep.go:354
      simp only [go_sem, reduceIte, Nat.reduceEqDiff, Nat.reduceAdd, Nat.reduceMul, Nat.reduceSub, Nat.reduceLeDiff, Nat.reduceLT, reduceCtorEq, getD_map hi, eStr]
      refine ⟨⟨by omega, by omega, wid_eStr _⟩, ?_⟩
      refine aw_seq fun K23 hK23 => ?_
      refine aw_sr rfl ?_  -- r16 @keep.go:355
      simp only [go_sem, reduceIte, Nat.reduceEqDiff, Nat.reduceAdd, Nat.reduceMul, Nat.reduceSub, Nat.reduceLeDiff, Nat.reduceLT, reduceCtorEq, show Int.toNat 8 = 8 from rfl, getD_b (show 8 < b.length by omega), hn8, wrap_c c8]
      refine ⟨⟨by omega, by omega, wid_bytes _⟩, ?_⟩
      refine aw_if rfl (fun h => ?_) (fun h => ?_)
      · have hlt : i < n8 := by rw [decide_eq_true_eq] at h; omega
        obtain ⟨rfl, hrp⟩ := j5 (by omega)
        have hw0 : ws = [] := List.eq_nil_of_length_eq_zero (by omega)
        subst hw0
        have hpl : ps.length = i := by simpa using j3
        have hcz : ∀ z, GoodN z → snapB z = b → ∃ hp : i < z.2.1.1.length, readPF L[i] = (z.2.1.1[i], 0) := by
          intro z hz hzb
          obtain ⟨e1, e2, e3⟩ := hcan z hz hzb
          subst e3
          exact ⟨by omega, piece_par hz hi (by omega)⟩
        have hfin := readPF_fine L[i]
        have hrok := readPF_ok (b := L[i])
        generalize L[i] = x at hli hcz hfin hrok ⊢
        refine aw_sr rfl ?_  -- r17 @keep.go:356
        simp only [go_sem, reduceIte, Nat.reduceEqDiff, Nat.reduceAdd, Nat.reduceMul, Nat.reduceSub, Nat.reduceLeDiff, Nat.reduceLT, reduceCtorEq]
        refine goA_q (q_ParcelOf x false (by show _ ≤ 1048576; omega)) ?_
        generalize readPF x = r at hcz hfin hrok ⊢
        simp only [go_sem, reduceIte, Nat.reduceEqDiff, Nat.reduceAdd, Nat.reduceMul, Nat.reduceSub, Nat.reduceLeDiff, Nat.reduceLT, reduceCtorEq]
        intro b12 hb12
        have n72 : ¬ b7 = b12 := ne_fresh j7 hb12
        refine aw_box1 hb12 fun B5 hs5 h12 => ?_
        replace j7 := hs5 _ _ j7
        replace j8 := hs5 _ _ j8
        replace jj := hs5 _ _ jj
        replace j9 := sub_trans j9 hs5
        replace hrp := hrp.sub hs5
        refine aw_seq fun K24 hK24 => ?_
        refine aw_sr rfl ?_  -- r18 @keep.go:357
        simp only [go_sem, reduceIte, Nat.reduceEqDiff, Nat.reduceAdd, Nat.reduceMul, Nat.reduceSub, Nat.reduceLeDiff, Nat.reduceLT, reduceCtorEq]
        refine aw_if rfl (fun h => ?_) (fun h => ?_)
        · refine aw_sr rfl ?_  -- r19 @keep.go:358
          simp only [go_sem, reduceIte, Nat.reduceEqDiff, Nat.reduceAdd, Nat.reduceMul, Nat.reduceSub, Nat.reduceLeDiff, Nat.reduceLT, reduceCtorEq, j8, jj]
          have h24 := hget_hset_self (y := .vars snZ) j8
          refine aw_ret ⟨trivial, ?_⟩
          simp only [go_sem, reduceIte, Nat.reduceEqDiff, Nat.reduceAdd, Nat.reduceMul, Nat.reduceSub, Nat.reduceLeDiff, Nat.reduceLT, reduceCtorEq, resL, resOf, h24]
          refine ⟨_, rfl, ?_, sub_hset_fresh hb2 j9⟩
          rw [readNF_no (fun z hz hzb => by obtain ⟨_, e⟩ := hcz z hz hzb; rw [e] at h; simp at h)]
          exact no_vle
        have hr0 : r.2 = 0 := by simpa using h
        have hgp := (hrok hr0).1
        refine aw_skip (hK24 _ _ ?_)
        refine aw_sr rfl ?_  -- r20 @keep.go:360
        simp only [go_sem, reduceIte, Nat.reduceEqDiff, Nat.reduceAdd, Nat.reduceMul, Nat.reduceSub, Nat.reduceLeDiff, Nat.reduceLT, reduceCtorEq, j7, h12]
        refine goP_rm hrp j9 ?_ fun t1 H1 hr1 hs1 hg1 => ?_
        · exact ⟨rfl, rfl, by decide, wid_ePcl _, wid_one rfl, sca_one rfl, by simp; omega, by simp; omega⟩
        have u5 := hg1.vars j7
        have u2 := hg1.vars j8
        have u4 := hg1.vars jj
        simp only [go_sem, reduceIte, Nat.reduceEqDiff, Nat.reduceAdd, Nat.reduceMul, Nat.reduceSub, Nat.reduceLeDiff, Nat.reduceLT, reduceCtorEq, u5, Bool.and_false]
        have hsn : ps.map ePcl ++ [cPcl r.1] = (ps ++ [r.1]).map ePcl := by rw [List.map_append, List.map_cons, List.map_nil]; rfl
        rw [hsn]
        generalize hH3 : hset H1 b7 _ = H3
        obtain ⟨v5, hk, _, hRm, hS⟩ := st_facts hH3 u5 (fun _ _ e => by cases e)
        refine aw_exit ?_  -- 3
        refine ⟨(ps ++ [r.1], t1, [], .full, H3), ⟨?_, j2, by simp [hpl], by simp; omega, fun _ => ⟨rfl, hRm _ _ _ hr1⟩, Rm.start _ _ _, ?_, hk _ _ n27 u2, hk _ _ n47 u4, hS _ hG7 hs1, fun z hz hzb => ?_⟩, ?_, sub_rfl⟩
        · intro p hp
          rcases List.mem_append.1 hp with hp | hp
          · exact j1 p hp
          · rw [List.mem_singleton.1 hp]; exact hgp
        · rw [isEmpty_snoc]; exact v5
        · obtain ⟨hp, e⟩ := hcz z hz hzb
          obtain ⟨q1, q2⟩ := j10 z hz hzb
          refine ⟨?_, rfl⟩
          rw [hpl] at q1
          show ps ++ [r.1] = z.2.1.1.take (ps ++ [r.1]).length
          rw [List.length_append, List.length_singleton, hpl, List.take_succ_eq_append_getElem hp, ← q1, e]
        · simp only [go_sem, reduceIte, Nat.reduceEqDiff, Nat.reduceAdd, Nat.reduceMul, Nat.reduceSub, Nat.reduceLeDiff, Nat.reduceLT, reduceCtorEq]
      · have hge : ¬ i < n8 := by rw [decide_eq_false_iff_not] at h; omega
        refine aw_skip (hK23 _ _ ?_)
        have hcz : ∀ z, GoodN z → snapB z = b → ∃ hp : i - n8 < z.2.2.1.length, wayF L[i] = some z.2.2.1[i - n8] := by
          intro z hz hzb
          obtain ⟨e1, e2, e3⟩ := hcan z hz hzb
          subst e3
          subst e1
          exact ⟨by omega, (piece_way hz hi hge (by omega)).1⟩
        have hwf : ∀ w, wayF L[i] = some w → FineW w := fun w hw => wayF_fine (by show _ ≤ 1048576; omega) hw
        generalize hLx : L[i] = x at hli hcz hwf ⊢
        refine aw_seq fun K25 hK25 => ?_
        refine aw_sr rfl ?_  -- r21 @keep.go:363
        simp only [go_sem, reduceIte, Nat.reduceEqDiff, Nat.reduceAdd, Nat.reduceMul, Nat.reduceSub, Nat.reduceLeDiff, Nat.reduceLT, reduceCtorEq]
        refine aw_if rfl (fun h => ?_) (fun h => ?_)
        · have hlt : x.length < 2 := by rw [decide_eq_true_eq] at h; omega
          refine aw_sr rfl ?_  -- r22 @keep.go:364
          simp only [go_sem, reduceIte, Nat.reduceEqDiff, Nat.reduceAdd, Nat.reduceMul, Nat.reduceSub, Nat.reduceLeDiff, Nat.reduceLT, reduceCtorEq, j8, jj]
          have h24 := hget_hset_self (y := .vars snZ) j8
          refine aw_ret ⟨trivial, ?_⟩
          simp only [go_sem, reduceIte, Nat.reduceEqDiff, Nat.reduceAdd, Nat.reduceMul, Nat.reduceSub, Nat.reduceLeDiff, Nat.reduceLT, reduceCtorEq, resL, resOf, h24]
          refine ⟨_, rfl, ?_, sub_hset_fresh hb2 j9⟩
          rw [readNF_no (fun z hz hzb => by obtain ⟨_, e⟩ := hcz z hz hzb; rw [wayF, if_pos hlt] at e; cases e)]
          exact no_vle
        have hge2 : 2 ≤ x.length := by rw [decide_eq_false_iff_not] at h; omega
        refine aw_skip (hK25 _ _ ?_)
        have d0 := (x.getD 0 0).toNat_lt
        have d1 := (x.getD 1 0).toNat_lt
        refine aw_srd [(0,true),(1,true),(2,true),(3,true),(4,true),(5,true),(6,true),(7,false),(8,false)] mixed rfl (by kernel_rfl) ?_  -- r23 @keep.go:366
        simp only [go_sem, reduceIte, Nat.reduceEqDiff, Nat.reduceAdd, Nat.reduceMul, Nat.reduceSub, Nat.reduceLeDiff, Nat.reduceLT, reduceCtorEq, Int.toNat_zero, toNat1, wrap_c d0, wrap_c d1]
        refine ⟨⟨by omega, by omega⟩, ⟨by omega, by omega⟩, ?_⟩
        intro b14 hb14
        have m7 : ¬ b7 = b14 := ne_fresh j7 hb14
        have m2 : ¬ b2 = b14 := ne_fresh j8 hb14
        have m4 : ¬ b4 = b14 := ne_fresh jj hb14
        have hG14 : hget G b14 = none := none_sub j9 hb14
        refine aw_box1 hb14 fun B6 hs6 h14 => ?_
        replace j7 := hs6 _ _ j7
        replace j8 := hs6 _ _ j8
        replace jj := hs6 _ _ jj
        replace j9 := sub_trans j9 hs6
        replace j6 := j6.sub hs6
        refine aw_sr rfl ?_  -- r24 @keep.go:367
        simp only [go_sem, reduceIte, Nat.reduceEqDiff, Nat.reduceAdd, Nat.reduceMul, Nat.reduceSub, Nat.reduceLeDiff, Nat.reduceLT, reduceCtorEq, toNat2, List.take_length, show ((List.length x : Nat) : Int).toNat = x.length from rfl]
        refine ⟨⟨by omega, by omega⟩, ?_⟩
        refine goA_q (q_Scanned (x.drop 2) false .no (by rw [List.length_drop]; omega)) ?_
        simp only [go_sem, reduceIte, Nat.reduceEqDiff, Nat.reduceAdd, Nat.reduceMul, Nat.reduceSub, Nat.reduceLeDiff, Nat.reduceLT, reduceCtorEq]
        have hmem := scanL_mem _ (x.drop 2) (Nat.le_refl _)
        have hlen := scanL_len (x.drop 2)
        rw [List.length_drop] at hmem hlen
        have hwF : wayF x = if (scanL (x.drop 2)).1.all okL = true then some (at0 x 0, at0 x 1, ((scanL (x.drop 2)).1.map rdL), (scanL (x.drop 2)).1.isEmpty) else none := by rw [wayF, if_neg (by omega)]; rfl
        generalize hM : (scanL (x.drop 2)).1 = M at *
        generalize hm : (scanL (x.drop 2)).2 = m at *
        refine aw_seq fun K26 hK26 => ?_
        refine aw_sr rfl ?_  -- r25 @keep.go:368
        simp only [go_sem, reduceIte, Nat.reduceEqDiff, Nat.reduceAdd, Nat.reduceMul, Nat.reduceSub, Nat.reduceLeDiff, Nat.reduceLT, reduceCtorEq]
        refine aw_range M.length (S := Tag × Heap) (fun _ _ => [(0, .sl (bytesV b) nl .no), (2, .ptr b2 0), (4, .ptr b4 0), (7, .ptr b7 0), (14, .ptr b14 0), (67, .sl (L.map eStr) L.isEmpty .no), (68, .int .i64 ((L.length : Nat) : Int)), (69, .int .i64 ((i : Nat) : Int)), (113, .sl (M.map eStr) M.isEmpty .no)]) (fun _ s => s.2)
          (fun k s => (M.take k).all okL = true ∧ hget s.2 b2 = some (.vars snZ) ∧ hget s.2 b4 = some (.vars snZ) ∧ hget s.2 b7 = some (.vars [.int .i64 t, .sl (ps.map ePcl) ps.isEmpty tp, .sl (ws.map eWyt) ws.isEmpty tw]) ∧ hget s.2 b14 = some (.vars [.int .i64 (at0 x 0), .int .i64 (at0 x 1), .sl (((M.take k).map rdL).map eLt) (M.take k).isEmpty s.1]) ∧ Rm G s.2 9 s.1 ∧ Rm G s.2 3 tw ∧ Dis s.1 tw ∧ Sub G s.2) (.full, B6) (by omega) ?_ (fun _ _ h => h)
          ⟨rfl, j8, jj, j7, by simp only [List.take_zero, List.map_nil, List.isEmpty_nil]; exact h14, Rm.start _ _ _, j6, Dis.full' _, j9⟩ rfl (fun _ _ => rfl) ?_ ?_ (by decide)
        · simp only [go_sem, reduceIte, Nat.reduceEqDiff, Nat.reduceAdd, Nat.reduceMul, Nat.reduceSub, Nat.reduceLeDiff, Nat.reduceLT, reduceCtorEq, Int.natCast_zero]
        · intro k ⟨tl, H2⟩ hk ⟨k1, k2, k4, k7, k14, kr, kw, kd, ks⟩
          simp only at k1 k2 k4 k7 k14 kr kw kd ks ⊢
          refine aw_sr rfl ?_  -- r27 @keep.go:368
          simp only [go_sem, reduceIte, Nat.reduceEqDiff, Nat.reduceAdd, Nat.reduceMul, Nat.reduceSub, Nat.reduceLeDiff, Nat.reduceLT, reduceCtorEq, getD_map hk, eStr]
          refine ⟨⟨by omega, by omega, wid_eStr _⟩, ?_⟩
          have hlb := hmem _ (List.getElem_mem hk)
          refine aw_sr rfl ?_  -- r28 @keep.go:369
          simp only [go_sem, reduceIte, Nat.reduceEqDiff, Nat.reduceAdd, Nat.reduceMul, Nat.reduceSub, Nat.reduceLeDiff, Nat.reduceLT, reduceCtorEq]
          refine goA_q (q_LetterOf M[k] false (by show _ ≤ 1048576; omega)) ?_
          simp only [go_sem, reduceIte, Nat.reduceEqDiff, Nat.reduceAdd, Nat.reduceMul, Nat.reduceSub, Nat.reduceLeDiff, Nat.reduceLT, reduceCtorEq]
          intro b19 hb19
          refine aw_box1 hb19 fun B7 hs7 h19 => ?_
          replace k2 := hs7 _ _ k2
          replace k4 := hs7 _ _ k4
          replace k7 := hs7 _ _ k7
          replace k14 := hs7 _ _ k14
          replace kr := kr.sub hs7
          replace kw := kw.sub hs7
          replace ks := sub_trans ks hs7
          refine aw_seq fun K27 hK27 => ?_
          refine aw_sr rfl ?_  -- r29 @keep.go:370
          simp only [go_sem, reduceIte, Nat.reduceEqDiff, Nat.reduceAdd, Nat.reduceMul, Nat.reduceSub, Nat.reduceLeDiff, Nat.reduceLT, reduceCtorEq]
          refine aw_if rfl (fun h => ?_) (fun h => ?_)
          · have hno : okL M[k] = false := by unfold okL; simpa using h
            refine aw_sr rfl ?_  -- r30 @keep.go:371
            simp only [go_sem, reduceIte, Nat.reduceEqDiff, Nat.reduceAdd, Nat.reduceMul, Nat.reduceSub, Nat.reduceLeDiff, Nat.reduceLT, reduceCtorEq, k2, k4]
            have h24 := hget_hset_self (y := .vars snZ) k2
            refine aw_ret ⟨trivial, ?_⟩
            simp only [go_sem, reduceIte, Nat.reduceEqDiff, Nat.reduceAdd, Nat.reduceMul, Nat.reduceSub, Nat.reduceLeDiff, Nat.reduceLT, reduceCtorEq, resL, resOf, h24]
            refine ⟨_, rfl, ?_, sub_hset_fresh hb2 ks⟩
            rw [readNF_no (fun z hz hzb => by obtain ⟨_, e⟩ := hcz z hz hzb; rw [hwF, if_neg (all_fail hk hno)] at e; cases e)]
            exact no_vle
          have hok : okL M[k] = true := by unfold okL; simpa using h
          refine aw_skip (hK27 _ _ ?_)
          refine aw_rg rfl ?_  -- r31 @keep.go:373
          simp only [go_sem, reduceIte, Nat.reduceEqDiff, Nat.reduceAdd, Nat.reduceMul, Nat.reduceSub, Nat.reduceLeDiff, Nat.reduceLT, reduceCtorEq, k14, h19]
          refine goP_rm kr ks ?_ fun t1 H1 hr1 hs1 hg1 => ?_
          · exact ⟨rfl, rfl, by decide, wid_eLt _, wid_one rfl, sca_one rfl, by simp; omega, by simp; omega⟩
          have u2 := hg1.vars k2
          have u4 := hg1.vars k4
          have u7 := hg1.vars k7
          have u14 := hg1.vars k14
          obtain ⟨uw, ud⟩ := hg1.2 _ _ _ kw kd
          simp only [go_sem, reduceIte, Nat.reduceEqDiff, Nat.reduceAdd, Nat.reduceMul, Nat.reduceSub, Nat.reduceLeDiff, Nat.reduceLT, reduceCtorEq, u14, Bool.and_false]
          have hsn : ((M.take k).map rdL).map eLt ++ [cLt (readLF M[k]).1] = ((M.take (k + 1)).map rdL).map eLt := by
            rw [List.take_succ_eq_append_getElem hk, List.map_append, List.map_append, List.map_cons, List.map_nil, List.map_cons, List.map_nil]; rfl
          have hie : (M.take (k + 1)).isEmpty = false := by rw [List.take_succ_eq_append_getElem hk]; exact isEmpty_snoc _ _
          rw [hsn]
          generalize hH3 : hset H1 b14 _ = H3
          obtain ⟨u5, hkk, _, hRm, hS⟩ := st_facts hH3 u14 (fun _ _ e => by cases e)
          refine ⟨(t1, H3), ⟨all_next hk k1 hok, hkk _ _ m2 u2, hkk _ _ m4 u4, hkk _ _ m7 u7, ?_, hRm _ _ _ hr1, hRm _ _ _ uw, ud, hS _ hG14 hs1⟩, ?_, sub_rfl⟩
          · rw [hie]; exact u5
          · simp only [go_sem, reduceIte, Nat.reduceEqDiff, Nat.reduceAdd, Nat.reduceMul, Nat.reduceSub, Nat.reduceLeDiff, Nat.reduceLT, reduceCtorEq]
        intro ⟨tl, H2⟩ ⟨k1, k2, k4, k7, k14, kr, kw, kd, ks⟩
        simp only at k1 k2 k4 k7 k14 kr kw kd ks ⊢
        rw [List.take_length] at k1 k14
        rw [if_pos k1] at hwF
        have hfw := hwf _ hwF
        refine hK26 _ _ ?_
        generalize hwd : ((at0 x 0, at0 x 1, M.map rdL, M.isEmpty) : Wyt) = w at hwF hfw
        refine AW.hle (ds := cWyt w) k14 (by rw [← hwd]; repeat (first | exact .nil | refine .cons (Vle.refl _) ?_ | refine .cons Vle.untag ?_ | refine .cons (Vle.aggL ?_) ?_ | refine .cons (Vle.slE ?_) ?_)) ?_
        generalize hH4 : hset H2 b14 _ = H4
        obtain ⟨v14, hkk, _, hRm, hS⟩ := st_facts hH4 k14 (fun _ _ e => by cases e)
        replace k2 := hkk _ _ m2 k2
        replace k4 := hkk _ _ m4 k4
        replace k7 := hkk _ _ m7 k7
        replace kw := hRm _ _ _ kw
        replace ks := hS _ hG14 ks
        clear hkk hRm hS hH4
        refine aw_rg rfl ?_  -- r33 @keep.go:375
        simp only [go_sem, reduceIte, Nat.reduceEqDiff, Nat.reduceAdd, Nat.reduceMul, Nat.reduceSub, Nat.reduceLeDiff, Nat.reduceLT, reduceCtorEq, k7, v14]
        refine goP_rm kw ks ?_ fun t1 H1 hr1 hs1 hg1 => ?_
        · exact ⟨rfl, rfl, by decide, wid_eWyt _, wid_one rfl, sca_one rfl, by simp; omega, by simp; omega⟩
        have u7 := hg1.vars k7
        have u2 := hg1.vars k2
        have u4 := hg1.vars k4
        simp only [go_sem, reduceIte, Nat.reduceEqDiff, Nat.reduceAdd, Nat.reduceMul, Nat.reduceSub, Nat.reduceLeDiff, Nat.reduceLT, reduceCtorEq, u7, Bool.and_false]
        have hsn : ws.map eWyt ++ [cWyt w] = (ws ++ [w]).map eWyt := by rw [List.map_append, List.map_cons, List.map_nil]; rfl
        rw [hsn]
        generalize hH3 : hset H1 b7 _ = H3
        obtain ⟨v5, hk, _, hRm, hS⟩ := st_facts hH3 u7 (fun _ _ e => by cases e)
        refine ⟨(ps, tp, ws ++ [w], t1, H3), ⟨j1, ?_, by show ps.length + (ws ++ [w]).length = i + 1; rw [List.length_append, List.length_singleton]; omega, by show (ws ++ [w]).length = _; rw [List.length_append, List.length_singleton]; omega, fun e => by omega, hRm _ _ _ hr1, ?_, hk _ _ n27 u2, hk _ _ n47 u4, hS _ hG7 hs1, fun z hz hzb => ?_⟩, ?_, sub_rfl⟩
        · intro p hp
          rcases List.mem_append.1 hp with hp | hp
          · exact j2 p hp
          · rw [List.mem_singleton.1 hp]; exact hfw
        · rw [isEmpty_snoc]; exact v5
        · obtain ⟨hp, e⟩ := hcz z hz hzb
          obtain ⟨q1, q2⟩ := j10 z hz hzb
          refine ⟨q1, ?_⟩
          rw [hwF] at e
          have e := Option.some.inj e
          rw [j4] at q2
          show ws ++ [w] = z.2.2.1.take (ws ++ [w]).length
          rw [List.length_append, List.length_singleton, j4, List.take_succ_eq_append_getElem hp, ← q2, e]
        · simp only [go_sem, reduceIte, Nat.reduceEqDiff, Nat.reduceAdd, Nat.reduceMul, Nat.reduceSub, Nat.reduceLeDiff, Nat.reduceLT, reduceCtorEq]
    intro ⟨ps, tp, ws, tw, H⟩ ⟨j1, j2, j3, j4, j5, j6, j7, j8, jj, j9, j10⟩
    simp only at j1 j2 j3 j4 j5 j6 j7 j8 jj j9 j10 ⊢
    refine hK22 _ _ ?_
    have hv : FineN (t, (ps, ps.isEmpty), (ws, ws.isEmpty)) := ⟨i1, ⟨j1, by show ps.length ≤ _; omega, rfl⟩, j2, by show ws.length ≤ _; omega, rfl⟩
    have hcanz : ∀ z, GoodN z → snapB z = b → (t, (ps, ps.isEmpty), (ws, ws.isEmpty)) = z := by
      intro z hz hzb
      obtain ⟨q1, q2⟩ := j10 z hz hzb
      obtain ⟨e1, e2, _⟩ := hcan z hz hzb
      have q0 := i5 z hz hzb
      rw [Nat.sub_self, Int.pow_zero, Int.ediv_one] at q0
      have l1 : ps.length = z.2.1.1.length := by omega
      have l2 : ws.length = z.2.2.1.length := by omega
      rw [l1, List.take_length] at q1
      rw [l2, List.take_length] at q2
      obtain ⟨zt, ⟨zp, zpn⟩, zw, zwn⟩ := z
      have n1 := hz.1.2.1.2.2
      have n2 := hz.1.2.2.2.2
      simp only at q0 q1 q2 n1 n2
      rw [n1, n2, q0, q1, q2]
    refine AW.hle (ds := cSnp (t, (ps, ps.isEmpty), (ws, ws.isEmpty))) j7 (by repeat (first | exact .nil | refine .cons (Vle.refl _) ?_ | refine .cons Vle.untag ?_ | refine .cons (Vle.aggL ?_) ?_ | refine .cons (Vle.slE ?_) ?_)) ?_
    generalize hH8 : hset H b7 _ = H8
    obtain ⟨h5, hk, _, _, hS⟩ := st_facts hH8 j7 (fun _ _ e => by cases e)
    have h27 := hk _ _ n27 j8
    have h47 := hk _ _ n47 jj
    have hsG := hS _ hG7 j9
    clear hS hk hH8
    generalize hvv : ((t, (ps, ps.isEmpty), (ws, ws.isEmpty)) : Snp) = v at hv hcanz h5
    refine aw_sr rfl ?_  -- r35 @keep.go:377
    simp only [go_sem, reduceIte, Nat.reduceEqDiff, Nat.reduceAdd, Nat.reduceMul, Nat.reduceSub, Nat.reduceLeDiff, Nat.reduceLT, reduceCtorEq, h5]
    refine goA_q (q_SnapBytes v hv.ok) ?_
    simp only [go_sem, reduceIte, Nat.reduceEqDiff, Nat.reduceAdd, Nat.reduceMul, Nat.reduceSub, Nat.reduceLeDiff, Nat.reduceLT, reduceCtorEq]
    refine aw_seq fun K28 hK28 => ?_
    refine aw_sr rfl ?_  -- r36 @keep.go:378
    simp only [go_sem, reduceIte, Nat.reduceEqDiff, Nat.reduceAdd, Nat.reduceMul, Nat.reduceSub, Nat.reduceLeDiff, Nat.reduceLT, reduceCtorEq]
    refine aw_if rfl (fun h => ?_) (fun h => ?_)
    · refine aw_sr rfl ?_  -- r37 @keep.go:379
      simp only [go_sem, reduceIte, Nat.reduceEqDiff, Nat.reduceAdd, Nat.reduceMul, Nat.reduceSub, Nat.reduceLeDiff, Nat.reduceLT, reduceCtorEq, h27, h47]
      have h24 := hget_hset_self (y := .vars snZ) h27
      refine aw_ret ⟨trivial, ?_⟩
      simp only [go_sem, reduceIte, Nat.reduceEqDiff, Nat.reduceAdd, Nat.reduceMul, Nat.reduceSub, Nat.reduceLeDiff, Nat.reduceLT, reduceCtorEq, resL, resOf, h24]
      refine ⟨_, rfl, ?_, sub_hset_fresh hb2 hsG⟩
      rw [readNF_no (fun z hz hzb => by
        have e := hcanz z hz hzb
        subst e
        rw [snapR_good hz] at h
        simp [hzb] at h)]
      exact no_vle
    refine aw_skip (hK28 _ _ ?_)
    refine aw_sr rfl ?_  -- r38 @keep.go:381
    simp only [go_sem, reduceIte, Nat.reduceEqDiff, Nat.reduceAdd, Nat.reduceMul, Nat.reduceSub, Nat.reduceLeDiff, Nat.reduceLT, reduceCtorEq, h27, h5]
    have h24 := hget_hset_self (y := .vars (cSnp v)) h27
    refine aw_ret ⟨trivial, ?_⟩
    simp only [go_sem, reduceIte, Nat.reduceEqDiff, Nat.reduceAdd, Nat.reduceMul, Nat.reduceSub, Nat.reduceLeDiff, Nat.reduceLT, reduceCtorEq, resL, resOf, h24]
    refine ⟨_, rfl, ?_, sub_hset_fresh hb2 hsG⟩
    have hd : (snapR v).2 = 0 ∧ (snapR v).1.1 = b := by
      by_cases g3 : (snapR v).2 = 0 <;> by_cases g4 : (snapR v).1.1 = b <;> simp [g3, g4] at h ⊢
    obtain ⟨o1, o2, o3⟩ := snapR_ok hd.1 hd.2
    rw [readNF_yes (v := v) ⟨hv, o1, o2⟩ o3 hcanz]
    exact Vle.refl _
end Go.Proofs.YtlgfffngojlffaaGreat

/- Last: the last snapshot of a log that is whole. No conditions but sizes. -/
set_option linter.unusedSimpArgs false
set_option linter.unusedVariables false
namespace Go.Proofs.YtlgfffngojlffaaGreat
open Go.Proofs.YtlgfffngojlffaaGreatV
set_option maxHeartbeats 1000000
set_option maxRecDepth 100000
abbrev Lst := Snp × Nat × Nat × Int
def finS (s : Snp) (m a : Nat) : Lst := if m = 0 then (zSnp, 0, 0, 4) else (s, m, a, 0)
/-- What a log holds, read from a place on. -/
noncomputable def lastF (log : List UInt8) : Nat → Snp → Nat → Nat → Lst
  | 0, s, m, a => finS s m a
  | k + 1, s, m, a =>
    if (log.drop a).length < 4 then finS s m a
    else if (log.drop a).length - 4 < n4 (log.drop a) then finS s m a
    else if (readNF (((log.drop a).drop 4).take (n4 (log.drop a)))).2 = 0 then lastF log k (readNF (((log.drop a).drop 4).take (n4 (log.drop a)))).1 (m + 1) (a + (4 + n4 (log.drop a)))
    else (zSnp, 0, 0, (readNF (((log.drop a).drop 4).take (n4 (log.drop a)))).2)
theorem lastF_stop {log : List UInt8} {k : Nat} {s : Snp} {m a : Nat} (h : (log.drop a).length < 4) : lastF log k s m a = finS s m a := by
  cases k with
  | zero => rfl
  | succ k => rw [lastF, if_pos h]
theorem lastF_short {log : List UInt8} {k : Nat} {s : Snp} {m a : Nat} (h : (log.drop a).length - 4 < n4 (log.drop a)) : lastF log k s m a = finS s m a := by
  cases k with
  | zero => rfl
  | succ k =>
    by_cases h1 : (log.drop a).length < 4
    · rw [lastF, if_pos h1]
    · rw [lastF, if_neg h1, if_pos h]
abbrev lstV (p : Lst) : V := .tup [.agg (cSnp p.1), .int .i64 ((p.2.1 : Nat) : Int), .int .i64 ((p.2.2.1 : Nat) : Int), .int .i64 p.2.2.2]
abbrev tagS (s : Snp) (t : Tag) : List V := [.int .i64 s.1, .sl (s.2.1.1.map ePcl) s.2.1.2 t, .sl (s.2.2.1.map eWyt) s.2.2.2 t]
theorem q_Last (log : List UInt8) (nl : Bool) (hnl : nl = true → log = []) (hb : log.length ≤ bulk) : Quiet Tryz.prog 4 [.sl (bytesV log) nl .no] (lstV (lastF log (log.length + 1) zSnp 0 0)) := by
  have hbl : log.length ≤ 1048576 := hb
  obtain ⟨R, hR⟩ : ∃ R, R = lastF log (log.length + 1) zSnp 0 0 := ⟨_, rfl⟩
  rw [← hR]
  refine Quiet.weak fun G => ?_
  refine acall_body (rs := [.cell 2 26, .tmp 3, .tmp 4, .tmp 5]) Tryz.func4 rfl rfl Tryz.ntmps4 (by kernel_rfl) (Nat.le_of_ble_eq_true rfl) ?_
  refine aw_sr rfl ?_  -- r0 @store.go:211
  simp only [go_sem, reduceIte, Nat.reduceEqDiff, Nat.reduceAdd, Nat.reduceMul, Nat.reduceSub, Nat.reduceLeDiff, Nat.reduceLT, reduceCtorEq]
  intro b2 hb2
  refine aw_box1 hb2 fun B1 hs1 h2 => ?_
  have hsB := hs1
  refine aw_sr rfl ?_  -- r1 @store.go:212
  simp only [go_sem, reduceIte, Nat.reduceEqDiff, Nat.reduceAdd, Nat.reduceMul, Nat.reduceSub, Nat.reduceLeDiff, Nat.reduceLT, reduceCtorEq]
  intro b6 hb6
  have hG6 : hget G b6 = none := none_sub hs1 hb6
  have n26 : ¬ b2 = b6 := ne_fresh h2 hb6
  refine aw_box1 hb6 fun B2 hs2 h6 => ?_
  replace h2 := hs2 _ _ h2
  replace hsB := sub_trans hsB hs2
  refine aw_sr rfl ?_  -- r2 @store.go:213
  simp only [go_sem, reduceIte, Nat.reduceEqDiff, Nat.reduceAdd, Nat.reduceMul, Nat.reduceSub, Nat.reduceLeDiff, Nat.reduceLT, reduceCtorEq]
  refine aw_seq fun K1 hK1 => ?_
  refine aw_block ?_  -- 0
  refine aw_lph (S := {s : (Snp × Tag) × Nat × Nat × Nat × Heap // R = lastF log s.2.1 s.1.1 s.2.2.1 s.2.2.2.1 ∧ (log.length < s.2.1 + s.2.2.2.1 ∧ s.2.2.1 ≤ s.2.2.2.1 ∧ s.2.2.2.1 ≤ log.length) ∧ hget s.2.2.2.2 b2 = some (.vars snZ) ∧ hget s.2.2.2.2 b6 = some (.vars (tagS s.1.1 s.1.2)) ∧ Sub G s.2.2.2.2})
    (fun s => [(0, .sl (bytesV log) nl .no), (2, .ptr b2 0), (6, .ptr b6 0), (7, .int .i64 ((s.1.2.2.1 : Nat) : Int)), (8, .int .i64 ((s.1.2.2.2.1 : Nat) : Int))]) (fun s => s.1.2.2.2.2) (fun s => log.length - s.1.2.2.2.1) ⟨((zSnp, .full), log.length + 1, 0, 0, B2), hR, ⟨by show log.length < log.length + 1 + 0; omega, Nat.le_refl 0, Nat.zero_le _⟩, h2, h6, hsB⟩ ?_ (fun _ _ h => h) ?_
  · simp only [go_sem, reduceIte, Nat.reduceEqDiff, Nat.reduceAdd, Nat.reduceMul, Nat.reduceSub, Nat.reduceLeDiff, Nat.reduceLT, reduceCtorEq, Int.natCast_zero]
  clear h2 h6
  intro ⟨⟨⟨s, t⟩, k, m, a, H⟩, i1, ⟨i2, i3, i4⟩, h2, h6, hs⟩
  simp only at i1 i2 i3 i4 h2 h6 hs ⊢
  have hdl : (log.drop a).length = log.length - a := List.length_drop
  have hsub : IntKind.i64.wrap (((log.length : Nat) : Int) - ((a : Nat) : Int)) = ((log.length - a : Nat) : Int) := by rw [wrap64 (by omega) (by omega)]; omega
  have hfin : R = finS s m a → ∀ f, FSub [(2, .ptr b2 0), (6, .ptr b6 0), (7, .int .i64 ((m : Nat) : Int)), (8, .int .i64 ((a : Nat) : Int))] f → K1 f H := by
    intro hf f hfr
    refine hK1 _ _ (AW.of_fsub hfr ?_)
    refine aw_seq fun K4 hK4 => ?_
    refine aw_sr rfl ?_  -- r11 @store.go:226
    simp only [go_sem, reduceIte, Nat.reduceEqDiff, Nat.reduceAdd, Nat.reduceMul, Nat.reduceSub, Nat.reduceLeDiff, Nat.reduceLT, reduceCtorEq]
    refine aw_if rfl (fun h => ?_) (fun h => ?_)
    · have hm : m = 0 := by rw [decide_eq_true_eq] at h; omega
      refine aw_sr rfl ?_  -- r12 @store.go:227
      simp only [go_sem, reduceIte, Nat.reduceEqDiff, Nat.reduceAdd, Nat.reduceMul, Nat.reduceSub, Nat.reduceLeDiff, Nat.reduceLT, reduceCtorEq, h2]
      refine aw_ret ⟨trivial, ?_⟩
      simp only [go_sem, reduceIte, Nat.reduceEqDiff, Nat.reduceAdd, Nat.reduceMul, Nat.reduceSub, Nat.reduceLeDiff, Nat.reduceLT, reduceCtorEq, resL, resOf, hget_hset_self h2]
      refine ⟨_, rfl, ?_, sub_hset_fresh hb2 hs⟩
      rw [hf, finS, if_pos hm]
      exact Vle.tupL (.cons (Vle.aggL (by repeat (first | exact .nil | refine .cons (Vle.refl _) ?_ | refine .cons Vle.untag ?_ | refine .cons (Vle.aggL ?_) ?_ | refine .cons (Vle.slE ?_) ?_))) (.cons (Vle.refl _) (.cons (Vle.refl _) (.cons (Vle.refl _) .nil))))
    have hm : ¬ m = 0 := by rw [decide_eq_false_iff_not] at h; omega
    refine aw_skip (hK4 _ _ ?_)
    refine aw_sr rfl ?_  -- r13 @store.go:229
    simp only [go_sem, reduceIte, Nat.reduceEqDiff, Nat.reduceAdd, Nat.reduceMul, Nat.reduceSub, Nat.reduceLeDiff, Nat.reduceLT, reduceCtorEq, h2, h6]
    refine aw_ret ⟨trivial, ?_⟩
    simp only [go_sem, reduceIte, Nat.reduceEqDiff, Nat.reduceAdd, Nat.reduceMul, Nat.reduceSub, Nat.reduceLeDiff, Nat.reduceLT, reduceCtorEq, resL, resOf, hget_hset_self h2]
    refine ⟨_, rfl, ?_, sub_hset_fresh hb2 hs⟩
    rw [hf, finS, if_neg hm]
    exact Vle.tupL (.cons (Vle.aggL (by repeat (first | exact .nil | refine .cons (Vle.refl _) ?_ | refine .cons Vle.untag ?_ | refine .cons (Vle.aggL ?_) ?_ | refine .cons (Vle.slE ?_) ?_))) (.cons (Vle.refl _) (.cons (Vle.refl _) (.cons (Vle.refl _) .nil))))
  refine aw_seq fun K2 hK2 => ?_
  refine aw_sr rfl ?_  -- r3 @store.go:214
  simp only [go_sem, reduceIte, Nat.reduceEqDiff, Nat.reduceAdd, Nat.reduceMul, Nat.reduceSub, Nat.reduceLeDiff, Nat.reduceLT, reduceCtorEq, hsub]
  refine aw_if rfl (fun h => ?_) (fun h => ?_)
  · have h4 : 4 ≤ log.length - a := by rw [decide_eq_true_eq] at h; omega
    have hnf : nl = false := by cases nl with | false => rfl | true => rw [hnl rfl] at h4; simp at h4
    subst hnf
    generalize hrs : log.drop a = rs at hdl i1
    have hk : ∃ k', k = k' + 1 := ⟨k - 1, by omega⟩
    obtain ⟨k', rfl⟩ := hk
    refine aw_skip (hK2 _ _ ?_)
    refine aw_block ?_  -- 1
    refine aw_sr rfl ?_  -- r4 @store.go:215
    simp only [go_sem, reduceIte, Nat.reduceEqDiff, Nat.reduceAdd, Nat.reduceMul, Nat.reduceSub, Nat.reduceLeDiff, Nat.reduceLT, reduceCtorEq, Int.toNat_natCast, List.take_length, drop_bytesV, sliceTag_no, hrs]
    refine ⟨⟨⟨by omega, by omega⟩, wid_bytes _⟩, ?_⟩
    have h0 := (rs.getD 0 0).toNat_lt
    have h1 := (rs.getD 1 0).toNat_lt
    have h2' := (rs.getD 2 0).toNat_lt
    have h3 := (rs.getD 3 0).toNat_lt
    have hn4 := n4_lt rs
    refine aw_srd [(0,true),(1,true),(2,true),(3,true),(4,true),(5,true),(6,true),(7,true),(8,true),(9,true),(10,true),(11,true),(12,true),(13,true),(14,true),(15,true),(16,true),(17,true),(18,true),(19,true),(20,true),(21,true),(22,true)] mixed rfl (by kernel_rfl) ?_  -- r5
    simp only [go_sem, reduceIte, Nat.reduceEqDiff, Nat.reduceAdd, Nat.reduceMul, Nat.reduceSub, Nat.reduceLeDiff, Nat.reduceLT, reduceCtorEq, Int.toNat_zero, toNat1, toNat2, show Int.toNat 3 = 3 from rfl, getD_b (show 0 < rs.length by omega), getD_b (show 1 < rs.length by omega), getD_b (show 2 < rs.length by omega), getD_b (show 3 < rs.length by omega)]
    refine ⟨⟨by omega, by omega, wid_bytes _⟩, by omega, ⟨by omega, by omega, wid_bytes _⟩, by omega, ⟨by omega, by omega, wid_bytes _⟩, by omega, ⟨by omega, by omega, wid_bytes _⟩, ?_⟩
    have hv : bits BinOp.or IntKind.i64 (bits BinOp.or IntKind.i64 (bits BinOp.or IntKind.i64 (IntKind.i64.wrap (IntKind.i64.wrap ((rs.getD 0 0).toNat : Int) * 2 ^ (Int.toNat 24).min 64)) (IntKind.i64.wrap (IntKind.i64.wrap ((rs.getD 1 0).toNat : Int) * 2 ^ (Int.toNat 16).min 64))) (IntKind.i64.wrap (IntKind.i64.wrap ((rs.getD 2 0).toNat : Int) * 2 ^ (Int.toNat 8).min 64))) (IntKind.i64.wrap ((rs.getD 3 0).toNat : Int)) = ((n4 rs : Nat) : Int) := by
      rw [show (Int.toNat 24).min 64 = 24 from rfl, show (Int.toNat 16).min 64 = 16 from rfl, show (Int.toNat 8).min 64 = 8 from rfl, shl_c h0 (by decide), shl_c h1 (by decide), shl_c h2' (by decide), wrap_c h3]
      exact n4_or rs
    rw [hv]
    refine aw_seq fun K3 hK3 => ?_
    refine aw_sr rfl ?_  -- r6 @store.go:217
    simp only [go_sem, reduceIte, Nat.reduceEqDiff, Nat.reduceAdd, Nat.reduceMul, Nat.reduceSub, Nat.reduceLeDiff, Nat.reduceLT, reduceCtorEq, show IntKind.i64.wrap ((rs.length : Int) - 4) = ((rs.length - 4 : Nat) : Int) by rw [wrap64 (by omega) (by omega)]; omega]
    refine aw_if rfl (fun h => ?_) (fun h => ?_)
    · refine aw_exit ?_  -- 0
      refine hfin (by rw [i1, lastF_short (by rw [hrs]; rw [decide_eq_true_eq] at h; omega)]) _ ⟨rfl, rfl, rfl, rfl, trivial⟩
    have hfit : ¬ rs.length - 4 < n4 rs := by rw [decide_eq_false_iff_not] at h; omega
    have hw2 : IntKind.i64.wrap (4 + ((n4 rs : Nat) : Int)) = ((4 + n4 rs : Nat) : Int) := by rw [wrap64 (by omega) (by omega)]; omega
    rw [lastF, hrs, if_neg (by omega), if_neg hfit] at i1
    refine aw_skip (hK3 _ _ ?_)
    refine aw_sr rfl ?_  -- r7 @store.go:220
    simp only [go_sem, reduceIte, Nat.reduceEqDiff, Nat.reduceAdd, Nat.reduceMul, Nat.reduceSub, Nat.reduceLeDiff, Nat.reduceLT, reduceCtorEq, hw2, show Int.toNat 4 = 4 from rfl, Int.toNat_natCast, take_bytesV, drop_bytesV, sliceTag_no, List.drop_take, Nat.add_sub_cancel_left]
    refine ⟨⟨⟨by omega, by omega, by omega⟩, wid_bytes _⟩, ?_⟩
    have hcl : ((rs.drop 4).take (n4 rs)).length ≤ bulk := by show _ ≤ 1048576; rw [List.length_take, List.length_drop]; omega
    generalize hcut : (rs.drop 4).take (n4 rs) = cut at hcl i1
    refine goA_q (q_Read cut false (fun h => by cases h) hcl) ?_
    simp only [go_sem, reduceIte, Nat.reduceEqDiff, Nat.reduceAdd, Nat.reduceMul, Nat.reduceSub, Nat.reduceLeDiff, Nat.reduceLT, reduceCtorEq]
    intro b11 hb11
    refine aw_box1 hb11 fun B3 hs3 h11 => ?_
    replace h2 := hs3 _ _ h2
    replace h6 := hs3 _ _ h6
    replace hs := sub_trans hs hs3
    generalize hrd : readNF cut = rd at h11 i1
    obtain ⟨s', e'⟩ := rd
    simp only at h11 i1
    refine aw_seq fun K5 hK5 => ?_
    refine aw_sr rfl ?_  -- r8 @store.go:221
    simp only [go_sem, reduceIte, Nat.reduceEqDiff, Nat.reduceAdd, Nat.reduceMul, Nat.reduceSub, Nat.reduceLeDiff, Nat.reduceLT, reduceCtorEq, hrd]
    refine aw_if rfl (fun h => ?_) (fun h => ?_)
    · have he : ¬ e' = 0 := by simpa using h
      rw [if_neg he] at i1
      refine aw_sr rfl ?_  -- r9 @store.go:222
      simp only [go_sem, reduceIte, Nat.reduceEqDiff, Nat.reduceAdd, Nat.reduceMul, Nat.reduceSub, Nat.reduceLeDiff, Nat.reduceLT, reduceCtorEq, h2]
      refine aw_ret ⟨trivial, ?_⟩
      simp only [go_sem, reduceIte, Nat.reduceEqDiff, Nat.reduceAdd, Nat.reduceMul, Nat.reduceSub, Nat.reduceLeDiff, Nat.reduceLT, reduceCtorEq, resL, resOf, hget_hset_self h2]
      refine ⟨_, rfl, ?_, sub_hset_fresh hb2 hs⟩
      rw [i1]
      exact Vle.tupL (.cons (Vle.aggL (by repeat (first | exact .nil | refine .cons (Vle.refl _) ?_ | refine .cons Vle.untag ?_ | refine .cons (Vle.aggL ?_) ?_ | refine .cons (Vle.slE ?_) ?_))) (.cons (Vle.refl _) (.cons (Vle.refl _) (.cons (Vle.refl _) .nil))))
    have he : e' = 0 := by simpa using h
    rw [if_pos he] at i1
    refine aw_skip (hK5 _ _ ?_)
    have hwm : IntKind.i64.wrap (((m : Nat) : Int) + 1) = ((m + 1 : Nat) : Int) := by rw [wrap64 (by omega) (by omega)]; omega
    have hwa : IntKind.i64.wrap (((a : Nat) : Int) + 4) = ((a + 4 : Nat) : Int) := by rw [wrap64 (by omega) (by omega)]; omega
    have hwn : IntKind.i64.wrap (((a + 4 : Nat) : Int) + ((n4 rs : Nat) : Int)) = ((a + (4 + n4 rs) : Nat) : Int) := by rw [wrap64 (by omega) (by omega)]; omega
    have hwn2 : IntKind.i64.wrap (((a : Nat) : Int) + ((4 + n4 rs : Nat) : Int)) = ((a + (4 + n4 rs) : Nat) : Int) := by rw [wrap64 (by omega) (by omega)]; omega
    refine aw_rg rfl ?_  -- r10 @store.go:224
    simp only [go_sem, reduceIte, Nat.reduceEqDiff, Nat.reduceAdd, Nat.reduceMul, Nat.reduceSub, Nat.reduceLeDiff, Nat.reduceLT, reduceCtorEq, h6, h11, hwm, hwa, hwn, hw2, hwn2]
    exact ⟨⟨((s', .no), k', m + 1, a + (4 + n4 rs), _), i1, ⟨by show log.length < k' + (a + (4 + n4 rs)); omega, by show m + 1 ≤ a + (4 + n4 rs); omega, by show a + (4 + n4 rs) ≤ log.length; omega⟩, hset_keep h2 n26, hget_hset_self h6, sub_hset_fresh hG6 hs⟩, by show log.length - (a + (4 + n4 rs)) < log.length - a; omega, ⟨rfl, rfl, rfl, rfl, rfl⟩, sub_rfl⟩
  · refine aw_exit ?_  -- 0
    refine hfin (by rw [i1, lastF_stop (by rw [decide_eq_false_iff_not] at h; omega)]) _ ⟨rfl, rfl, rfl, rfl, trivial⟩
end Go.Proofs.YtlgfffngojlffaaGreat

/- SnapLast: the reference's last snapshot of a log. No conditions but sizes. -/
set_option linter.unusedSimpArgs false
set_option linter.unusedVariables false
namespace Go.Proofs.YtlgfffngojlffaaGreat
open Go.Proofs.YtlgfffngojlffaaGreatV
set_option maxHeartbeats 1000000
set_option maxRecDepth 100000
theorem lastF_fine (log : List UInt8) : ∀ (k : Nat) (s : Snp) (m a : Nat), FineN s → FineN (lastF log k s m a).1 := by
  intro k
  induction k with
  | zero => intro s m a h; rw [lastF, finS]; split <;> first | exact FineN.zero | exact h
  | succ k ih =>
    intro s m a h
    rw [lastF]
    by_cases h1 : (log.drop a).length < 4
    · rw [if_pos h1, finS]; split <;> first | exact FineN.zero | exact h
    rw [if_neg h1]
    by_cases h2 : (log.drop a).length - 4 < n4 (log.drop a)
    · rw [if_pos h2, finS]; split <;> first | exact FineN.zero | exact h
    rw [if_neg h2]
    split
    · exact ih _ _ _ (readNF_fine _)
    · exact FineN.zero
def eSnp (s : Snp) : List V := cSnp s
theorem wid_eSnp (xs : List Snp) : wid 3 (xs.map eSnp) := wid_map (g := eSnp) (fun _ => rfl) _
theorem getD_drop {b : List UInt8} {a i : Nat} : (b.drop a).getD i 0 = b.getD (a + i) 0 := by
  rw [List.getD_eq_getElem?_getD, List.getD_eq_getElem?_getD, List.getElem?_drop]
theorem getLastD_snoc {A : Type} (l : List A) (x d : A) : (l ++ [x]).getLastD d = x := by simp
theorem q_SnapLast (log : List UInt8) (nl : Bool) (hb : log.length ≤ bulk) : Quiet Tryz.prog 5 [.sl (bytesV log) nl .no] (lstV (lastF log (log.length + 1) zSnp 0 0)) := by
  have hbl : log.length ≤ 1048576 := hb
  obtain ⟨R, hR⟩ : ∃ R, R = lastF log (log.length + 1) zSnp 0 0 := ⟨_, rfl⟩
  rw [← hR]
  refine Quiet.weak fun G => ?_
  refine acall_body (rs := [.cell 2 26, .tmp 3, .tmp 4, .tmp 5]) Tryz.func5 rfl rfl Tryz.ntmps5 (by kernel_rfl) (Nat.le_of_ble_eq_true rfl) ?_
  refine aw_sr rfl ?_  -- r0 @keep.go:385
  simp only [go_sem, reduceIte, Nat.reduceEqDiff, Nat.reduceAdd, Nat.reduceMul, Nat.reduceSub, Nat.reduceLeDiff, Nat.reduceLT, reduceCtorEq]
  intro b2 hb2
  refine aw_box1 hb2 fun B1 hs1 h2 => ?_
  have hsB := hs1
  refine aw_sr rfl ?_  -- r1 @keep.go:386
  simp only [go_sem, reduceIte, Nat.reduceEqDiff, Nat.reduceAdd, Nat.reduceMul, Nat.reduceSub, Nat.reduceLeDiff, Nat.reduceLT, reduceCtorEq]
  refine aw_sr rfl ?_  -- r2 @keep.go:387
  simp only [go_sem, reduceIte, Nat.reduceEqDiff, Nat.reduceAdd, Nat.reduceMul, Nat.reduceSub, Nat.reduceLeDiff, Nat.reduceLT, reduceCtorEq]
  refine aw_seq fun K1 hK1 => ?_
  refine aw_block ?_  -- 0
  refine aw_lph (S := {s : List Snp × Tag × Nat × Nat × Heap // R = lastF log s.2.2.1 (s.1.getLastD zSnp) s.1.length s.2.2.2.1 ∧ (log.length < s.2.2.1 + s.2.2.2.1 ∧ s.1.length ≤ s.2.2.2.1 ∧ s.2.2.2.1 ≤ log.length) ∧ hget s.2.2.2.2 b2 = some (.vars snZ) ∧ Rm G s.2.2.2.2 3 s.2.1 ∧ Sub G s.2.2.2.2})
    (fun s => [(0, .sl (bytesV log) nl .no), (2, .ptr b2 0), (6, .sl (s.1.1.map eSnp) s.1.1.isEmpty s.1.2.1), (7, .int .i64 ((s.1.2.2.2.1 : Nat) : Int))]) (fun s => s.1.2.2.2.2) (fun s => log.length - s.1.2.2.2.1) ⟨([], .full, log.length + 1, 0, B1), hR, ⟨by show log.length < log.length + 1 + 0; omega, Nat.le_refl 0, Nat.zero_le _⟩, h2, Rm.start _ _ _, hsB⟩ ?_ (fun _ _ h => h) ?_
  · simp only [go_sem, reduceIte, Nat.reduceEqDiff, Nat.reduceAdd, Nat.reduceMul, Nat.reduceSub, Nat.reduceLeDiff, Nat.reduceLT, reduceCtorEq, Int.natCast_zero]
  clear h2
  intro ⟨⟨all, t, k, a, H⟩, i1, ⟨i2, i3, i4⟩, h2, hr, hs⟩
  simp only at i1 i2 i3 i4 h2 hr hs ⊢
  have hdl : (log.drop a).length = log.length - a := List.length_drop
  have hwa : IntKind.i64.wrap (((a : Nat) : Int) + 4) = ((a + 4 : Nat) : Int) := by rw [wrap64 (by omega) (by omega)]; omega
  have hwa1 : IntKind.i64.wrap (((a : Nat) : Int) + 1) = ((a + 1 : Nat) : Int) := by rw [wrap64 (by omega) (by omega)]; omega
  have hwa2 : IntKind.i64.wrap (((a : Nat) : Int) + 2) = ((a + 2 : Nat) : Int) := by rw [wrap64 (by omega) (by omega)]; omega
  have hwa3 : IntKind.i64.wrap (((a : Nat) : Int) + 3) = ((a + 3 : Nat) : Int) := by rw [wrap64 (by omega) (by omega)]; omega
  have hfin : R = finS (all.getLastD zSnp) all.length a → ∀ f, FSub [(2, .ptr b2 0), (6, .sl (all.map eSnp) all.isEmpty t), (7, .int .i64 ((a : Nat) : Int))] f → K1 f H := by
    intro hf f hfr
    refine hK1 _ _ (AW.of_fsub hfr ?_)
    refine aw_seq fun K4 hK4 => ?_
    refine aw_sr rfl ?_  -- r11 @keep.go:400
    simp only [go_sem, reduceIte, Nat.reduceEqDiff, Nat.reduceAdd, Nat.reduceMul, Nat.reduceSub, Nat.reduceLeDiff, Nat.reduceLT, reduceCtorEq]
    refine aw_if rfl (fun h => ?_) (fun h => ?_)
    · have hm : all.length = 0 := by rw [decide_eq_true_eq] at h; omega
      refine aw_sr rfl ?_  -- r12 @keep.go:401
      simp only [go_sem, reduceIte, Nat.reduceEqDiff, Nat.reduceAdd, Nat.reduceMul, Nat.reduceSub, Nat.reduceLeDiff, Nat.reduceLT, reduceCtorEq, h2]
      refine aw_ret ⟨trivial, ?_⟩
      simp only [go_sem, reduceIte, Nat.reduceEqDiff, Nat.reduceAdd, Nat.reduceMul, Nat.reduceSub, Nat.reduceLeDiff, Nat.reduceLT, reduceCtorEq, resL, resOf, hget_hset_self h2]
      refine ⟨_, rfl, ?_, sub_hset_fresh hb2 hs⟩
      rw [hf, finS, if_pos hm]
      exact Vle.tupL (.cons (Vle.aggL (by repeat (first | exact .nil | refine .cons (Vle.refl _) ?_ | refine .cons Vle.untag ?_ | refine .cons (Vle.aggL ?_) ?_ | refine .cons (Vle.slE ?_) ?_))) (.cons (Vle.refl _) (.cons (Vle.refl _) (.cons (Vle.refl _) .nil))))
    have hm : ¬ all.length = 0 := by rw [decide_eq_false_iff_not] at h; omega
    have hw1 : IntKind.i64.wrap (((all.length : Nat) : Int) - 1) = ((all.length - 1 : Nat) : Int) := by rw [wrap64 (by omega) (by omega)]; omega
    have hi : all.length - 1 < all.length := by omega
    have hg : all.getLastD zSnp = all[all.length - 1] := by
      rw [List.getLastD_eq_getLast?, List.getLast?_eq_getElem?, List.getElem?_eq_getElem hi]; rfl
    refine aw_skip (hK4 _ _ ?_)
    refine aw_sr rfl ?_  -- r13 @keep.go:403
    simp only [go_sem, reduceIte, Nat.reduceEqDiff, Nat.reduceAdd, Nat.reduceMul, Nat.reduceSub, Nat.reduceLeDiff, Nat.reduceLT, reduceCtorEq, h2, hw1, Int.toNat_natCast, getD_map hi, eSnp]
    refine ⟨⟨by omega, by omega, wid_eSnp _⟩, ?_⟩
    refine aw_ret ⟨trivial, ?_⟩
    simp only [go_sem, reduceIte, Nat.reduceEqDiff, Nat.reduceAdd, Nat.reduceMul, Nat.reduceSub, Nat.reduceLeDiff, Nat.reduceLT, reduceCtorEq, resL, resOf, hget_hset_self h2]
    refine ⟨_, rfl, ?_, sub_hset_fresh hb2 hs⟩
    rw [hf, finS, if_neg hm, hg]
    exact Vle.tupL (.cons (Vle.aggL (by repeat (first | exact .nil | refine .cons (Vle.refl _) ?_ | refine .cons Vle.untag ?_ | refine .cons (Vle.aggL ?_) ?_ | refine .cons (Vle.slE ?_) ?_))) (.cons (Vle.refl _) (.cons (Vle.refl _) (.cons (Vle.refl _) .nil))))
  refine aw_seq fun K2 hK2 => ?_
  refine aw_sr rfl ?_  -- r3 @keep.go:388
  simp only [go_sem, reduceIte, Nat.reduceEqDiff, Nat.reduceAdd, Nat.reduceMul, Nat.reduceSub, Nat.reduceLeDiff, Nat.reduceLT, reduceCtorEq, hwa]
  refine aw_if rfl (fun h => ?_) (fun h => ?_)
  · have h4 : a + 4 ≤ log.length := by rw [decide_eq_true_eq] at h; omega
    have hk : ∃ k', k = k' + 1 := ⟨k - 1, by omega⟩
    obtain ⟨k', rfl⟩ := hk
    refine aw_skip (hK2 _ _ ?_)
    refine aw_block ?_  -- 1
    have h0 := (log.getD a 0).toNat_lt
    have h1 := (log.getD (a + 1) 0).toNat_lt
    have h2' := (log.getD (a + 2) 0).toNat_lt
    have h3 := (log.getD (a + 3) 0).toNat_lt
    have hn4 := n4_lt (log.drop a)
    have hmul := n4_mul (log.drop a)
    rw [getD_drop, getD_drop, getD_drop, getD_drop, Nat.add_zero] at hmul
    generalize hn : n4 (log.drop a) = n at hn4 hmul i1
    refine aw_srd [(0,true),(1,true),(2,true),(3,true),(4,true),(5,true),(6,true),(7,true),(8,true),(9,true),(10,true),(11,true),(12,true),(13,true),(14,true),(15,true),(16,true),(17,true),(18,true),(19,true),(20,true),(21,true),(22,true),(23,true),(24,true),(25,true),(26,true),(27,true),(28,true),(29,true)] mixed rfl (by kernel_rfl) ?_  -- r4
    simp only [go_sem, reduceIte, Nat.reduceEqDiff, Nat.reduceAdd, Nat.reduceMul, Nat.reduceSub, Nat.reduceLeDiff, Nat.reduceLT, reduceCtorEq, hwa1, hwa2, hwa3, Int.toNat_natCast, getD_b (show a < log.length by omega), getD_b (show a + 1 < log.length by omega), getD_b (show a + 2 < log.length by omega), getD_b (show a + 3 < log.length by omega), wrap_c h0, wrap_c h1, wrap_c h2', wrap_c h3, hmul]
    refine ⟨⟨by omega, by omega, wid_bytes _⟩, ⟨by omega, by omega, wid_bytes _⟩, ⟨by omega, by omega, wid_bytes _⟩, ⟨by omega, by omega, wid_bytes _⟩, ?_⟩
    have hwn : IntKind.i64.wrap (((a + 4 : Nat) : Int) + ((n : Nat) : Int)) = ((a + 4 + n : Nat) : Int) := by rw [wrap64 (by omega) (by omega)]; omega
    have hw2 : IntKind.i64.wrap (4 + ((n : Nat) : Int)) = ((4 + n : Nat) : Int) := by rw [wrap64 (by omega) (by omega)]; omega
    have hwn2 : IntKind.i64.wrap (((a : Nat) : Int) + ((4 + n : Nat) : Int)) = ((a + (4 + n) : Nat) : Int) := by rw [wrap64 (by omega) (by omega)]; omega
    refine aw_seq fun K3 hK3 => ?_
    refine aw_sr rfl ?_  -- r5 @keep.go:390
    simp only [go_sem, reduceIte, Nat.reduceEqDiff, Nat.reduceAdd, Nat.reduceMul, Nat.reduceSub, Nat.reduceLeDiff, Nat.reduceLT, reduceCtorEq, hwa, hwn]
    refine aw_if rfl (fun h => ?_) (fun h => ?_)
    · refine aw_exit ?_  -- 0
      refine hfin (by rw [i1, lastF_short (by rw [hn]; rw [decide_eq_true_eq] at h; omega)]) _ ⟨rfl, rfl, rfl, trivial⟩
    have hfit : a + 4 + n ≤ log.length := by rw [decide_eq_false_iff_not] at h; omega
    rw [lastF, hn, if_neg (by omega), if_neg (by omega), List.drop_drop] at i1
    refine aw_skip (hK3 _ _ ?_)
    refine aw_sr rfl ?_  -- r6 @keep.go:393
    simp only [go_sem, reduceIte, Nat.reduceEqDiff, Nat.reduceAdd, Nat.reduceMul, Nat.reduceSub, Nat.reduceLeDiff, Nat.reduceLT, reduceCtorEq, hwa, hwn, Int.toNat_natCast, take_bytesV, drop_bytesV, sliceTag_no, List.drop_take, Nat.add_sub_cancel_left]
    refine ⟨⟨⟨by omega, by omega, by omega⟩, wid_bytes _⟩, ?_⟩
    have hcl : ((log.drop (a + 4)).take n).length ≤ bulk := by show _ ≤ 1048576; rw [List.length_take, List.length_drop]; omega
    generalize hcut : (log.drop (a + 4)).take n = cut at hcl i1
    refine goA_q (q_SnapOf cut nl hcl) ?_
    simp only [go_sem, reduceIte, Nat.reduceEqDiff, Nat.reduceAdd, Nat.reduceMul, Nat.reduceSub, Nat.reduceLeDiff, Nat.reduceLT, reduceCtorEq]
    intro b9 hb9
    refine aw_box1 hb9 fun B3 hs3 h9 => ?_
    replace h2 := hs3 _ _ h2
    replace hr := hr.sub hs3
    replace hs := sub_trans hs hs3
    generalize hrd : readNF cut = rd at h9 i1
    obtain ⟨s', e'⟩ := rd
    simp only at h9 i1
    refine aw_seq fun K5 hK5 => ?_
    refine aw_sr rfl ?_  -- r7 @keep.go:394
    simp only [go_sem, reduceIte, Nat.reduceEqDiff, Nat.reduceAdd, Nat.reduceMul, Nat.reduceSub, Nat.reduceLeDiff, Nat.reduceLT, reduceCtorEq, hrd]
    refine aw_if rfl (fun h => ?_) (fun h => ?_)
    · have he : ¬ e' = 0 := by simpa using h
      rw [if_neg he] at i1
      refine aw_sr rfl ?_  -- r8 @keep.go:395
      simp only [go_sem, reduceIte, Nat.reduceEqDiff, Nat.reduceAdd, Nat.reduceMul, Nat.reduceSub, Nat.reduceLeDiff, Nat.reduceLT, reduceCtorEq, h2]
      refine aw_ret ⟨trivial, ?_⟩
      simp only [go_sem, reduceIte, Nat.reduceEqDiff, Nat.reduceAdd, Nat.reduceMul, Nat.reduceSub, Nat.reduceLeDiff, Nat.reduceLT, reduceCtorEq, resL, resOf, hget_hset_self h2]
      refine ⟨_, rfl, ?_, sub_hset_fresh hb2 hs⟩
      rw [i1]
      exact Vle.tupL (.cons (Vle.aggL (by repeat (first | exact .nil | refine .cons (Vle.refl _) ?_ | refine .cons Vle.untag ?_ | refine .cons (Vle.aggL ?_) ?_ | refine .cons (Vle.slE ?_) ?_))) (.cons (Vle.refl _) (.cons (Vle.refl _) (.cons (Vle.refl _) .nil))))
    have he : e' = 0 := by simpa using h
    rw [if_pos he] at i1
    refine aw_skip (hK5 _ _ ?_)
    refine aw_sr rfl ?_  -- r9 @keep.go:397
    simp only [go_sem, reduceIte, Nat.reduceEqDiff, Nat.reduceAdd, Nat.reduceMul, Nat.reduceSub, Nat.reduceLeDiff, Nat.reduceLT, reduceCtorEq, h9]
    refine goP_rm hr hs ?_ fun t1 H1 hr1 hs1 hg1 => ?_
    · exact ⟨rfl, rfl, by decide, wid_eSnp _, wid_one rfl, by simp [sca, scalarV], by simp; omega, by simp; omega⟩
    simp only [go_sem, reduceIte, Nat.reduceEqDiff, Nat.reduceAdd, Nat.reduceMul, Nat.reduceSub, Nat.reduceLeDiff, Nat.reduceLT, reduceCtorEq]
    have h2n := hg1.vars h2
    refine aw_rg rfl ?_  -- r10 @keep.go:398
    simp only [go_sem, reduceIte, Nat.reduceEqDiff, Nat.reduceAdd, Nat.reduceMul, Nat.reduceSub, Nat.reduceLeDiff, Nat.reduceLT, reduceCtorEq, hw2, hwn2]
    refine ⟨⟨(all ++ [s'], t1, k', a + (4 + n), H1), ?_, ⟨by show log.length < k' + (a + (4 + n)); omega, by show (all ++ [s']).length ≤ a + (4 + n); rw [List.length_append, List.length_singleton]; omega, by show a + (4 + n) ≤ log.length; omega⟩, h2n, hr1, hs1⟩, by show log.length - (a + (4 + n)) < log.length - a; omega, ?_, sub_rfl⟩
    · simp only [getLastD_snoc, List.length_append, List.length_singleton]; exact i1
    · simp only [go_sem, reduceIte, Nat.reduceEqDiff, Nat.reduceAdd, Nat.reduceMul, Nat.reduceSub, Nat.reduceLeDiff, Nat.reduceLT, reduceCtorEq]
      rw [isEmpty_snoc, List.map_append, List.map_cons, List.map_nil, eSnp]
      try simp
  · refine aw_exit ?_  -- 0
    refine hfin (by rw [i1, lastF_stop (by rw [decide_eq_false_iff_not] at h; omega)]) _ ⟨rfl, rfl, rfl, trivial⟩
end Go.Proofs.YtlgfffngojlffaaGreat

/- Add: a snapshot behind a log. No conditions but sizes. -/
set_option linter.unusedSimpArgs false
set_option linter.unusedVariables false
namespace Go.Proofs.YtlgfffngojlffaaGreat
open Go.Proofs.YtlgfffngojlffaaGreatV
set_option maxHeartbeats 1000000
set_option maxRecDepth 100000
theorem a_Grow (n : Nat) (h0 : 0 < n) (hn : n ≤ 140737488355328) (G : Heap) : ACall Tryz.prog 46 [.sl [] true .full, .int .i64 ((n : Nat) : Int)] (fun y G' => ∃ t, y = .sl [] false t ∧ Rm G G' 1 t ∧ Sub G G') G := by
  refine ACall.turn ?_
  refine acall_body (rs := [.tmp 4]) Tryz.func46 rfl rfl Tryz.ntmps46 (by kernel_rfl) (Nat.le_of_ble_eq_true rfl) ?_
  refine aw_sr rfl ?_  -- r0
  simp only [go_sem, reduceIte, Nat.reduceEqDiff, Nat.reduceAdd, Nat.reduceMul, Nat.reduceSub, Nat.reduceLeDiff, Nat.reduceLT, reduceCtorEq]
  refine aw_seq fun K1 hK1 => ?_
  refine aw_sr rfl ?_  -- r1
  simp only [go_sem, reduceIte, Nat.reduceEqDiff, Nat.reduceAdd, Nat.reduceMul, Nat.reduceSub, Nat.reduceLeDiff, Nat.reduceLT, reduceCtorEq]
  refine aw_if rfl (fun h => by rw [decide_eq_true_eq] at h; omega) (fun h => ?_)
  refine aw_skip (hK1 _ _ ?_)
  refine aw_seq fun K2 hK2 => ?_
  have hw : IntKind.i64.wrap (((n : Nat) : Int) - IntKind.i64.wrap (0 - 0)) = ((n : Nat) : Int) := by rw [show IntKind.i64.wrap (0 - 0) = 0 from rfl, Int.sub_zero]; exact wrap64 (by omega) (by omega)
  refine aw_sr rfl ?_  -- r3
  simp only [go_sem, reduceIte, Nat.reduceEqDiff, Nat.reduceAdd, Nat.reduceMul, Nat.reduceSub, Nat.reduceLeDiff, Nat.reduceLT, reduceCtorEq, List.length_nil, Int.natCast_zero, hw]
  refine aw_sr rfl ?_  -- r4
  simp only [go_sem, reduceIte, Nat.reduceEqDiff, Nat.reduceAdd, Nat.reduceMul, Nat.reduceSub, Nat.reduceLeDiff, Nat.reduceLT, reduceCtorEq]
  refine aw_if rfl (fun h => ?_) (fun h => by rw [decide_eq_false_iff_not] at h; omega)
  refine aw_rg rfl ?_  -- r5
  have st0 : sliceTag Tag.full 1 0 (Int.toNat 0) 0 = Tag.full := rfl
  simp only [go_sem, reduceIte, Nat.reduceEqDiff, Nat.reduceAdd, Nat.reduceMul, Nat.reduceSub, Nat.reduceLeDiff, Nat.reduceLT, reduceCtorEq, List.length_nil, Int.natCast_zero, st0]
  refine ⟨⟨⟨Int.le_refl _, Int.le_refl _⟩, by simp [wid]⟩, ?_⟩
  refine goP2_make ⟨by kernel_rfl, by omega, by omega, by omega, rfl, rfl, by decide⟩ fun b c hb hc => ?_
  simp only [go_sem, reduceIte, Nat.reduceEqDiff, Nat.reduceAdd, Nat.reduceMul, Nat.reduceSub, Nat.reduceLeDiff, Nat.reduceLT, reduceCtorEq, List.length_nil, Int.natCast_zero]
  refine ⟨⟨by omega, by omega⟩, ?_⟩
  refine hK2 _ _ ?_
  refine aw_sr rfl ?_  -- r6
  simp only [go_sem, reduceIte, Nat.reduceEqDiff, Nat.reduceAdd, Nat.reduceMul, Nat.reduceSub, Nat.reduceLeDiff, Nat.reduceLT, reduceCtorEq]
  refine aw_ret ⟨trivial, _, rfl, ?_⟩
  refine ⟨_, _, turn_top (n := 1) (by rw [List.length_replicate]; exact Nat.le_refl _), _, rfl, .inr ⟨_, _, _, rfl, hget_self _ _ _, hb⟩, sub_tail hb⟩
def eBn (x : List UInt8 × Bool) : List V := [.sl (bytesV x.1) x.2 .no]
theorem wid_eBn (xs : List (List UInt8 × Bool)) : wid 1 (xs.map eBn) := wid_map (g := eBn) (fun _ => rfl) _
def catB (l : List (List UInt8 × Bool)) : List UInt8 := l.flatMap (·.1)
theorem catB_nil : catB [] = [] := rfl
theorem catB_succ {l : List (List UInt8 × Bool)} {i : Nat} (h : i < l.length) : catB (l.take (i + 1)) = catB (l.take i) ++ l[i].1 := by
  rw [catB, catB, List.take_succ_eq_append_getElem h, List.flatMap_append]; simp
theorem catB_le {l : List (List UInt8 × Bool)} (i : Nat) : (catB (l.take i)).length ≤ (catB l).length := by
  have h : catB l = catB (l.take i) ++ catB (l.drop i) := by rw [catB, catB, catB, ← List.flatMap_append, List.take_append_drop]
  rw [h, List.length_append]; omega
theorem q_Concat (l : List (List UInt8 × Bool)) (nl : Bool) (t : Tag) (hl : l.length ≤ 1048576) (h0 : 0 < (catB l).length) (hn : (catB l).length ≤ 140737488355328) : Quiet Tryz.prog 21 [.sl (l.map eBn) nl t] (.sl (bytesV (catB l)) false .no) := by
  refine Quiet.weak fun G => ?_
  refine acall_body (rs := [.tmp 2]) Tryz.func21 rfl rfl Tryz.ntmps21 (by kernel_rfl) (Nat.le_of_ble_eq_true rfl) ?_
  refine aw_sr rfl ?_  -- r0 @slices.go:491
  simp only [go_sem, reduceIte, Nat.reduceEqDiff, Nat.reduceAdd, Nat.reduceMul, Nat.reduceSub, Nat.reduceLeDiff, Nat.reduceLT, reduceCtorEq]
  refine aw_sr rfl ?_  -- r1 @slices.go:492
  simp only [go_sem, reduceIte, Nat.reduceEqDiff, Nat.reduceAdd, Nat.reduceMul, Nat.reduceSub, Nat.reduceLeDiff, Nat.reduceLT, reduceCtorEq]
  refine aw_seq fun K1 hK1 => ?_
  refine aw_sr rfl ?_  -- r2 @slices.go:493
  simp only [go_sem, reduceIte, Nat.reduceEqDiff, Nat.reduceAdd, Nat.reduceMul, Nat.reduceSub, Nat.reduceLeDiff, Nat.reduceLT, reduceCtorEq]
  refine aw_range l.length (S := Unit) (fun i _ => [(0, .sl (l.map eBn) nl t), (3, .int .i64 (((catB (l.take i)).length : Nat) : Int)), (9, .sl (l.map eBn) nl t)]) (fun _ _ => G) (fun _ _ => True) () (by omega) ?_ (fun _ _ h => h) trivial rfl (fun _ _ => rfl) ?_ ?_ (by decide)
  · simp only [go_sem, reduceIte, Nat.reduceEqDiff, Nat.reduceAdd, Nat.reduceMul, Nat.reduceSub, Nat.reduceLeDiff, Nat.reduceLT, reduceCtorEq, List.take_zero, catB_nil, List.length_nil, Int.natCast_zero]
  · intro i _ hi _
    have hc := catB_le (l := l) i
    have hc1 := catB_le (l := l) (i + 1)
    rw [catB_succ hi, List.length_append] at hc1
    have hw : IntKind.i64.wrap ((((catB (l.take i)).length : Nat) : Int) + ((l[i].1.length : Nat) : Int)) = (((catB (l.take (i + 1))).length : Nat) : Int) := by rw [catB_succ hi, List.length_append, wrap64 (by omega) (by omega)]; omega
    refine aw_sr rfl ?_  -- r4 @slices.go:493
    simp only [go_sem, reduceIte, Nat.reduceEqDiff, Nat.reduceAdd, Nat.reduceMul, Nat.reduceSub, Nat.reduceLeDiff, Nat.reduceLT, reduceCtorEq, getD_map hi, eBn]
    refine ⟨⟨by omega, by omega, wid_eBn _⟩, ?_⟩
    refine aw_sr rfl ?_  -- r5 @slices.go:494
    simp only [go_sem, reduceIte, Nat.reduceEqDiff, Nat.reduceAdd, Nat.reduceMul, Nat.reduceSub, Nat.reduceLeDiff, Nat.reduceLT, reduceCtorEq, hw]
    refine aw_sr rfl ?_  -- r6 @slices.go:495
    simp only [go_sem, reduceIte, Nat.reduceEqDiff, Nat.reduceAdd, Nat.reduceMul, Nat.reduceSub, Nat.reduceLeDiff, Nat.reduceLT, reduceCtorEq]
    refine aw_if rfl (fun h => by rw [decide_eq_true_eq] at h; omega) (fun h => ?_)
    refine aw_skip ⟨(), ?_, sub_rfl⟩
    exact ⟨rfl, rfl, rfl, rfl, rfl⟩
  intro _ _
  refine hK1 _ _ ?_
  rw [List.take_length]
  refine aw_sr rfl ?_  -- r9 @slices.go:502
  simp only [go_sem, reduceIte, Nat.reduceEqDiff, Nat.reduceAdd, Nat.reduceMul, Nat.reduceSub, Nat.reduceLeDiff, Nat.reduceLT, reduceCtorEq]
  refine goA_by (a_Grow (catB l).length h0 hn G) fun y G3 hy => ?_
  obtain ⟨t3, rfl, hr3, hs3⟩ := hy
  simp only [go_sem, reduceIte, Nat.reduceEqDiff, Nat.reduceAdd, Nat.reduceMul, Nat.reduceSub, Nat.reduceLeDiff, Nat.reduceLT, reduceCtorEq]
  refine aw_seq fun K2 hK2 => ?_
  refine aw_sr rfl ?_  -- r10 @slices.go:503
  simp only [go_sem, reduceIte, Nat.reduceEqDiff, Nat.reduceAdd, Nat.reduceMul, Nat.reduceSub, Nat.reduceLeDiff, Nat.reduceLT, reduceCtorEq]
  refine aw_range l.length (S := Tag × Heap) (fun i s => [(6, .sl (bytesV (catB (l.take i))) false s.1), (25, .sl (l.map eBn) nl t)]) (fun _ s => s.2) (fun i s => Rm G s.2 1 s.1 ∧ Sub G s.2) (t3, G3) (by omega) ?_ (fun _ _ h => h) ⟨hr3, hs3⟩ rfl (fun _ _ => rfl) ?_ ?_ (by decide)
  · simp only [go_sem, reduceIte, Nat.reduceEqDiff, Nat.reduceAdd, Nat.reduceMul, Nat.reduceSub, Nat.reduceLeDiff, Nat.reduceLT, reduceCtorEq, List.take_zero, catB_nil, List.length_nil, Int.natCast_zero]
    try rfl
  · intro i ⟨t4, H⟩ hi ⟨hr, hs⟩
    simp only at hr hs ⊢
    have hc1 := catB_le (l := l) (i + 1)
    rw [catB_succ hi, List.length_append] at hc1
    refine aw_sr rfl ?_  -- r12 @slices.go:503
    simp only [go_sem, reduceIte, Nat.reduceEqDiff, Nat.reduceAdd, Nat.reduceMul, Nat.reduceSub, Nat.reduceLeDiff, Nat.reduceLT, reduceCtorEq, getD_map hi, eBn]
    refine ⟨⟨by omega, by omega, wid_eBn _⟩, ?_⟩
    refine aw_rg rfl ?_  -- r13 @slices.go:504
    simp only [go_sem, reduceIte, Nat.reduceEqDiff, Nat.reduceAdd, Nat.reduceMul, Nat.reduceSub, Nat.reduceLeDiff, Nat.reduceLT, reduceCtorEq]
    refine goP_rm hr hs ?_ fun t5 H5 hr5 hs5 hg5 => ?_
    · refine ⟨rfl, rfl, by decide, wid_bytes _, wid_bytes _, by simp, ?_, ?_⟩
      · rw [length_bytesV, length_bytesV]; omega
      · rw [length_bytesV, length_bytesV]; omega
    simp only [go_sem, reduceIte, Nat.reduceEqDiff, Nat.reduceAdd, Nat.reduceMul, Nat.reduceSub, Nat.reduceLeDiff, Nat.reduceLT, reduceCtorEq]
    refine ⟨(t5, H5), ⟨hr5, hs5⟩, ?_, sub_rfl⟩
    simp only [go_sem, reduceIte, Nat.reduceEqDiff, Nat.reduceAdd, Nat.reduceMul, Nat.reduceSub, Nat.reduceLeDiff, Nat.reduceLT, reduceCtorEq]
    rw [catB_succ hi]
    try simp
  intro ⟨t4, H⟩ ⟨hr, hs⟩
  simp only at hr hs ⊢
  refine hK2 _ _ ?_
  rw [List.take_length]
  refine aw_sr rfl ?_  -- r15 @slices.go:506
  simp only [go_sem, reduceIte, Nat.reduceEqDiff, Nat.reduceAdd, Nat.reduceMul, Nat.reduceSub, Nat.reduceLeDiff, Nat.reduceLT, reduceCtorEq]
  exact aw_ret ⟨trivial, _, rfl, Vle.untag, hs⟩
end Go.Proofs.YtlgfffngojlffaaGreat

/- Snapshots compared with themselves; the law StoreRead. No conditions. -/
set_option linter.unusedSimpArgs false
set_option linter.unusedVariables false
namespace Go.Proofs.YtlgfffngojlffaaGreat
open Go.Proofs.YtlgfffngojlffaaGreatV
set_option maxHeartbeats 400000
set_option maxRecDepth 100000
theorem q_EqPcls (F : FuncId) (xs ys : List Pcl) (n1 n2 : Bool) (t1 t2 : Tag) (hx : (xs.length : Int) ≤ 9223372036854775807) (hl : xs.length = ys.length)
    (hF : ∀ i (h1 : i < xs.length) (h2 : i < ys.length), Quiet Tryz.prog F [.agg (cPcl xs[i]), .agg (cPcl ys[i])] (.bool true)) :
    Quiet Tryz.prog 12 [.sl (xs.map ePcl) n1 t1, .sl (ys.map ePcl) n2 t2, .func (.func F) [] []] (.bool true) := by
  refine Quiet.weak fun G => ?_
  refine acall_body (rs := [.tmp 6]) Tryz.func12 rfl rfl Tryz.ntmps12 (by kernel_rfl) (Nat.le_of_ble_eq_true rfl) ?_
  refine aw_sr rfl ?_
  simp only [go_sem, reduceIte, Nat.reduceEqDiff, Nat.reduceAdd, Nat.reduceMul, Nat.reduceSub, Nat.reduceLeDiff, Nat.reduceLT, reduceCtorEq]
  refine aw_seq fun K1 hK1 => ?_
  refine aw_sr rfl ?_
  simp only [go_sem, reduceIte, Nat.reduceEqDiff, Nat.reduceAdd, Nat.reduceMul, Nat.reduceSub, Nat.reduceLeDiff, Nat.reduceLT, reduceCtorEq]
  refine aw_if rfl (fun h => ?_) (fun h => ?_)
  · have h : ¬ xs.length = ys.length := by simpa [Int.natCast_inj] using h
    exact absurd hl h
  · refine aw_skip (hK1 _ _ ?_)
    refine aw_seq fun K2 hK2 => ?_
    refine aw_sr rfl ?_
    simp only [go_sem, reduceIte, Nat.reduceEqDiff, Nat.reduceAdd, Nat.reduceMul, Nat.reduceSub, Nat.reduceLeDiff, Nat.reduceLT, reduceCtorEq]
    refine aw_range xs.length (S := Unit) (fun _ _ => [(15, .sl (xs.map ePcl) n1 t1), (1, .sl (ys.map ePcl) n2 t2), (2, .func (.func F) [] [])]) (fun _ _ => G) (fun i _ => True) () hx ?_ (fun _ _ h => h) trivial rfl (fun _ _ => rfl) ?_ ?_ (by decide)
    · simp only [go_sem, reduceIte, Nat.reduceEqDiff, Nat.reduceAdd, Nat.reduceMul, Nat.reduceSub, Nat.reduceLeDiff, Nat.reduceLT, reduceCtorEq, Int.natCast_zero]
    · intro i _ hi he
      have hi2 : i < ys.length := hl ▸ hi
      refine aw_sr rfl ?_
      simp only [go_sem, reduceIte, Nat.reduceEqDiff, Nat.reduceAdd, Nat.reduceMul, Nat.reduceSub, Nat.reduceLeDiff, Nat.reduceLT, reduceCtorEq, getD_map hi, getD_map hi2, ePcl]
      refine ⟨⟨by omega, by omega, wid_map (g := ePcl) (fun _ => by simp [ePcl]) _⟩, fun b hb => ?_⟩
      refine aw_sr rfl ?_
      simp only [go_sem, reduceIte, Nat.reduceEqDiff, Nat.reduceAdd, Nat.reduceMul, Nat.reduceSub, Nat.reduceLeDiff, Nat.reduceLT, reduceCtorEq, getD_map hi, getD_map hi2, ePcl]
      refine ⟨⟨by omega, by omega, wid_map (g := ePcl) (fun _ => by simp [ePcl]) _⟩, fun b2 hb2 => ?_⟩
      have hne : ¬ b2 = b := by intro e; subst e; rw [hget_cons, if_pos rfl] at hb2; cases hb2
      refine aw_sr rfl ?_
      simp only [go_sem, reduceIte, Nat.reduceEqDiff, Nat.reduceAdd, Nat.reduceMul, Nat.reduceSub, Nat.reduceLeDiff, Nat.reduceLT, reduceCtorEq, hget_cons, hne]
      have hq := hF i hi hi2
      refine goA_q hq ?_
      simp only [go_sem, reduceIte, Nat.reduceEqDiff, Nat.reduceAdd, Nat.reduceMul, Nat.reduceSub, Nat.reduceLeDiff, Nat.reduceLT, reduceCtorEq]
      refine aw_if rfl (fun h => ?_) (fun h => ?_)
      · simp at h
      · refine aw_skip ⟨(), ?_, fun b' o' h => hsub_at hb2 _ _ (hsub_at hb _ _ h)⟩
        simp only [go_sem, reduceIte, Nat.reduceEqDiff, Nat.reduceAdd, Nat.reduceMul, Nat.reduceSub, Nat.reduceLeDiff, Nat.reduceLT, reduceCtorEq]
    · intro _ he
      refine hK2 _ _ ?_
      refine aw_sr rfl ?_
      simp only [go_sem, reduceIte, Nat.reduceEqDiff, Nat.reduceAdd, Nat.reduceMul, Nat.reduceSub, Nat.reduceLeDiff, Nat.reduceLT, reduceCtorEq]
      refine aw_ret ⟨trivial, _, rfl, ?_, fun _ _ h => h⟩
      exact Vle.refl _
theorem q_EqWyts (F : FuncId) (xs ys : List Wyt) (n1 n2 : Bool) (t1 t2 : Tag) (hx : (xs.length : Int) ≤ 9223372036854775807) (hl : xs.length = ys.length)
    (hF : ∀ i (h1 : i < xs.length) (h2 : i < ys.length), Quiet Tryz.prog F [.agg (cWyt xs[i]), .agg (cWyt ys[i])] (.bool true)) :
    Quiet Tryz.prog 14 [.sl (xs.map eWyt) n1 t1, .sl (ys.map eWyt) n2 t2, .func (.func F) [] []] (.bool true) := by
  refine Quiet.weak fun G => ?_
  refine acall_body (rs := [.tmp 6]) Tryz.func14 rfl rfl Tryz.ntmps14 (by kernel_rfl) (Nat.le_of_ble_eq_true rfl) ?_
  refine aw_sr rfl ?_
  simp only [go_sem, reduceIte, Nat.reduceEqDiff, Nat.reduceAdd, Nat.reduceMul, Nat.reduceSub, Nat.reduceLeDiff, Nat.reduceLT, reduceCtorEq]
  refine aw_seq fun K1 hK1 => ?_
  refine aw_sr rfl ?_
  simp only [go_sem, reduceIte, Nat.reduceEqDiff, Nat.reduceAdd, Nat.reduceMul, Nat.reduceSub, Nat.reduceLeDiff, Nat.reduceLT, reduceCtorEq]
  refine aw_if rfl (fun h => ?_) (fun h => ?_)
  · have h : ¬ xs.length = ys.length := by simpa [Int.natCast_inj] using h
    exact absurd hl h
  · refine aw_skip (hK1 _ _ ?_)
    refine aw_seq fun K2 hK2 => ?_
    refine aw_sr rfl ?_
    simp only [go_sem, reduceIte, Nat.reduceEqDiff, Nat.reduceAdd, Nat.reduceMul, Nat.reduceSub, Nat.reduceLeDiff, Nat.reduceLT, reduceCtorEq]
    refine aw_range xs.length (S := Unit) (fun _ _ => [(15, .sl (xs.map eWyt) n1 t1), (1, .sl (ys.map eWyt) n2 t2), (2, .func (.func F) [] [])]) (fun _ _ => G) (fun i _ => True) () hx ?_ (fun _ _ h => h) trivial rfl (fun _ _ => rfl) ?_ ?_ (by decide)
    · simp only [go_sem, reduceIte, Nat.reduceEqDiff, Nat.reduceAdd, Nat.reduceMul, Nat.reduceSub, Nat.reduceLeDiff, Nat.reduceLT, reduceCtorEq, Int.natCast_zero]
    · intro i _ hi he
      have hi2 : i < ys.length := hl ▸ hi
      refine aw_sr rfl ?_
      simp only [go_sem, reduceIte, Nat.reduceEqDiff, Nat.reduceAdd, Nat.reduceMul, Nat.reduceSub, Nat.reduceLeDiff, Nat.reduceLT, reduceCtorEq, getD_map hi, getD_map hi2, eWyt]
      refine ⟨⟨by omega, by omega, wid_map (g := eWyt) (fun _ => by simp [eWyt]) _⟩, fun b hb => ?_⟩
      refine aw_sr rfl ?_
      simp only [go_sem, reduceIte, Nat.reduceEqDiff, Nat.reduceAdd, Nat.reduceMul, Nat.reduceSub, Nat.reduceLeDiff, Nat.reduceLT, reduceCtorEq, getD_map hi, getD_map hi2, eWyt]
      refine ⟨⟨by omega, by omega, wid_map (g := eWyt) (fun _ => by simp [eWyt]) _⟩, fun b2 hb2 => ?_⟩
      have hne : ¬ b2 = b := by intro e; subst e; rw [hget_cons, if_pos rfl] at hb2; cases hb2
      refine aw_sr rfl ?_
      simp only [go_sem, reduceIte, Nat.reduceEqDiff, Nat.reduceAdd, Nat.reduceMul, Nat.reduceSub, Nat.reduceLeDiff, Nat.reduceLT, reduceCtorEq, hget_cons, hne]
      have hq := hF i hi hi2
      refine goA_q hq ?_
      simp only [go_sem, reduceIte, Nat.reduceEqDiff, Nat.reduceAdd, Nat.reduceMul, Nat.reduceSub, Nat.reduceLeDiff, Nat.reduceLT, reduceCtorEq]
      refine aw_if rfl (fun h => ?_) (fun h => ?_)
      · simp at h
      · refine aw_skip ⟨(), ?_, fun b' o' h => hsub_at hb2 _ _ (hsub_at hb _ _ h)⟩
        simp only [go_sem, reduceIte, Nat.reduceEqDiff, Nat.reduceAdd, Nat.reduceMul, Nat.reduceSub, Nat.reduceLeDiff, Nat.reduceLT, reduceCtorEq]
    · intro _ he
      refine hK2 _ _ ?_
      refine aw_sr rfl ?_
      simp only [go_sem, reduceIte, Nat.reduceEqDiff, Nat.reduceAdd, Nat.reduceMul, Nat.reduceSub, Nat.reduceLeDiff, Nat.reduceLT, reduceCtorEq]
      refine aw_ret ⟨trivial, _, rfl, ?_, fun _ _ h => h⟩
      exact Vle.refl _
theorem q_sameSnap1 (w : Wyt) (h : FineW w) : Quiet Tryz.prog 15 [.agg (cWyt w), .agg (cWyt w)] (.bool true) := by
  obtain ⟨h1, h2, h3, h4, h5⟩ := h
  refine Quiet.weak fun G => ?_
  refine acall_body (rs := [.tmp 4]) Tryz.func15 rfl rfl Tryz.ntmps15 (by kernel_rfl) (Nat.le_of_ble_eq_true rfl) ?_
  refine aw_sr rfl ?_
  simp only [go_sem, reduceIte, Nat.reduceEqDiff, Nat.reduceAdd, Nat.reduceMul, Nat.reduceSub, Nat.reduceLeDiff, Nat.reduceLT, reduceCtorEq]
  intro b2 hb2
  intro b3 hb3
  refine aw_box2 hb2 hb3 fun B1 hs1 h2' h3' _ _ => ?_
  have hsB := hs1
  refine aw_sr rfl ?_
  simp only [go_sem, reduceIte, Nat.reduceEqDiff, Nat.reduceAdd, Nat.reduceMul, Nat.reduceSub, Nat.reduceLeDiff, Nat.reduceLT, reduceCtorEq, h2', h3']
  refine goH_q (fun hg => q_EqLts 17 w.2.2.1 w.2.2.1 _ _ _ _ (by omega) rfl (fun i h1 _ => q_sameLetter _ (h3 _ (List.getElem_mem h1)).1.2.2.2.2.2.1.ok)) ?_
  simp only [go_sem, reduceIte, Nat.reduceEqDiff, Nat.reduceAdd, Nat.reduceMul, Nat.reduceSub, Nat.reduceLeDiff, Nat.reduceLT, reduceCtorEq, h2', h3']
  refine aw_ret ⟨trivial, _, rfl, ?_, hsB⟩
  exact Vle.refl _
theorem q_sameSnap (x : Snp) (h : FineN x) : Quiet Tryz.prog 6 [.agg (cSnp x), .agg (cSnp x)] (.bool true) := by
  obtain ⟨h1, ⟨h2, h3, h4⟩, h5, h6, h7⟩ := h
  refine Quiet.weak fun G => ?_
  refine acall_body (rs := [.tmp 4]) Tryz.func6 rfl rfl Tryz.ntmps6 (by kernel_rfl) (Nat.le_of_ble_eq_true rfl) ?_
  refine aw_sr rfl ?_  -- r0 @low.go:36
  simp only [go_sem, reduceIte, Nat.reduceEqDiff, Nat.reduceAdd, Nat.reduceMul, Nat.reduceSub, Nat.reduceLeDiff, Nat.reduceLT, reduceCtorEq]
  intro b2 hb2
  intro b3 hb3
  refine aw_box2 hb2 hb3 fun B1 hs1 h2' h3' _ _ => ?_
  have hsB := hs1
  refine aw_sr rfl ?_  -- r1 @low.go:37
  simp only [go_sem, reduceIte, Nat.reduceEqDiff, Nat.reduceAdd, Nat.reduceMul, Nat.reduceSub, Nat.reduceLeDiff, Nat.reduceLT, reduceCtorEq, h2', h3']
  refine goH_q (fun hg => q_EqPcls 13 x.2.1.1 x.2.1.1 _ _ _ _ (by omega) rfl (fun i h1 _ => q_sameParcel _ (h2 _ (List.getElem_mem h1)).1)) ?_
  simp only [go_sem, reduceIte, Nat.reduceEqDiff, Nat.reduceAdd, Nat.reduceMul, Nat.reduceSub, Nat.reduceLeDiff, Nat.reduceLT, reduceCtorEq, h2', h3']
  refine goH_q (fun hg => q_EqWyts 15 x.2.2.1 x.2.2.1 _ _ _ _ (by omega) rfl (fun i h1 _ => q_sameSnap1 _ (h5 _ (List.getElem_mem h1)))) ?_
  simp only [go_sem, reduceIte, Nat.reduceEqDiff, Nat.reduceAdd, Nat.reduceMul, Nat.reduceSub, Nat.reduceLeDiff, Nat.reduceLT, reduceCtorEq, h2', h3']
  refine aw_ret ⟨trivial, _, rfl, ?_, hsB⟩
  exact Vle.refl _
theorem beB_inj : ∀ (k : Nat) (n m : Int), 0 ≤ n → 0 ≤ m → n < 256 ^ k → m < 256 ^ k → beB k n = beB k m → n = m
  | 0, n, m, h1, h2, h3, h4, _ => by simp at h3 h4; omega
  | k + 1, n, m, h1, h2, h3, h4, h => by
    rw [beB, beB] at h
    obtain ⟨e1, e2⟩ := List.append_inj' h rfl
    have e3 := (List.cons.inj e2).1
    rw [Int.pow_succ] at h3 h4
    have e4 := beB_inj k _ _ (by omega) (by omega) (Int.ediv_lt_of_lt_mul (by decide) h3) (Int.ediv_lt_of_lt_mul (by decide) h4) e1
    have e5 := u8_cast n
    have e6 := u8_cast m
    rw [e3] at e5
    rw [wrap_u8] at e5 e6
    omega
def b5N : List UInt8 := [0, 0, 0, 0, 0, 0, 0, 5, 0, 0]
def s5N : Snp := (5, ([], true), ([], true))
theorem read_b5N : readNF b5N = (s5N, 0) := by
  have hb : snapB s5N = b5N := by decide
  refine readNF_yes ⟨⟨by decide, ⟨(fun p h => by cases h), by decide, rfl⟩, (fun p h => by cases h), by decide, rfl⟩, by decide, by decide⟩ hb fun z hz hzb => ?_
  obtain ⟨_, e1, e2, e3, _, _⟩ := snap_cut hz hzb (by decide)
  have hc := checkN_good hz.2.1
  have hr := i64_range hz.1.1
  have et : z.1 = 5 := by
    have : beB 8 z.1 = beB 8 5 := by rw [← e1]; decide
    exact beB_inj 8 z.1 5 hc.2.1 (by decide) (Int.lt_of_le_of_lt hr.2 (by decide)) (by decide) this
  have l1 : z.2.1.1 = [] := List.eq_nil_of_length_eq_zero (by have : at0 b5N 8 = 0 := by decide
                                                              omega)
  have l2 : z.2.2.1 = [] := List.eq_nil_of_length_eq_zero (by have : at0 b5N 9 = 0 := by decide
                                                              omega)
  obtain ⟨zt, ⟨zp, zpn⟩, zw, zwn⟩ := z
  have n1 := hz.1.2.1.2.2
  have n2 := hz.1.2.2.2.2
  simp only at et l1 l2 n1 n2
  rw [n1, n2, et, l1, l2]; rfl
namespace storeRead
end storeRead
end Go.Proofs.YtlgfffngojlffaaGreat

/- The law StoreLast. No conditions but sizes. -/
set_option linter.unusedSimpArgs false
set_option linter.unusedVariables false
namespace Go.Proofs.YtlgfffngojlffaaGreat
open Go.Proofs.YtlgfffngojlffaaGreatV
set_option maxHeartbeats 1000000
set_option maxRecDepth 100000
theorem snapR_len {x : Snp} (ho : OkSnp x) (h : (snapR x).2 = 0) : snapR x = ((snapB x, false), 0) ∧ (snapB x).length ≤ 1099511627776 := by
  obtain ⟨h1, h2, _⟩ := snapR_ok h rfl
  have hg := checkN_good h1
  refine ⟨by unfold snapR; rw [if_neg (by rw [h1]; simp), if_neg (by rw [h2]; simp)], ?_⟩
  have l1 := pparts_len ho.2.2.1 hg.2.2.1 hg.1.1
  have l2 := wparts_len hg.1.2 (fun w hw => (hg.2.2.2 w hw).1) h2
  rw [snapB_eq, List.length_append, List.length_append, List.length_append, beB_len]
  simp only [List.length_cons, List.length_nil]
  omega
def addR (log : List UInt8) (x : Snp) : (List UInt8 × Bool) × Int := if (snapR x).2 ≠ 0 then (([], true), (snapR x).2) else ((log ++ partB (snapB x), false), 0)
theorem q_Add (log : List UInt8) (nl : Bool) (x : Snp) (hl : log.length ≤ bulk) (ho : OkSnp x) : Quiet Tryz.prog 8 [.sl (bytesV log) nl .no, .agg (cSnp x)] (pairB (addR log x)) := by
  have hll : log.length ≤ 1048576 := hl
  refine Quiet.weak fun G => ?_
  refine acall_body (rs := [.tmp 4, .tmp 5]) Tryz.func8 rfl rfl Tryz.ntmps8 (by kernel_rfl) (Nat.le_of_ble_eq_true rfl) ?_
  refine aw_sr rfl ?_  -- r0 @store.go:202
  simp only [go_sem, reduceIte, Nat.reduceEqDiff, Nat.reduceAdd, Nat.reduceMul, Nat.reduceSub, Nat.reduceLeDiff, Nat.reduceLT, reduceCtorEq]
  intro b3 hb3
  refine aw_box1 hb3 fun B1 hs1 h3 => ?_
  have hsB := hs1
  refine aw_sr rfl ?_  -- r1 @store.go:203
  simp only [go_sem, reduceIte, Nat.reduceEqDiff, Nat.reduceAdd, Nat.reduceMul, Nat.reduceSub, Nat.reduceLeDiff, Nat.reduceLT, reduceCtorEq, h3]
  refine goA_q (q_SBytes x ho) ?_
  simp only [go_sem, reduceIte, Nat.reduceEqDiff, Nat.reduceAdd, Nat.reduceMul, Nat.reduceSub, Nat.reduceLeDiff, Nat.reduceLT, reduceCtorEq, h3]
  refine aw_seq fun K1 hK1 => ?_
  refine aw_sr rfl ?_  -- r2 @store.go:204
  simp only [go_sem, reduceIte, Nat.reduceEqDiff, Nat.reduceAdd, Nat.reduceMul, Nat.reduceSub, Nat.reduceLeDiff, Nat.reduceLT, reduceCtorEq]
  refine aw_if rfl (fun h => ?_) (fun h => ?_)
  · have he : (snapR x).2 ≠ 0 := by simpa using h
    refine aw_sr rfl ?_  -- r3 @store.go:205
    simp only [go_sem, reduceIte, Nat.reduceEqDiff, Nat.reduceAdd, Nat.reduceMul, Nat.reduceSub, Nat.reduceLeDiff, Nat.reduceLT, reduceCtorEq]
    refine aw_ret ⟨trivial, _, rfl, ?_, hsB⟩
    rw [addR, if_pos he]
    exact Vle.tupL (.cons Vle.untag (.cons (Vle.refl _) .nil))
  have he : (snapR x).2 = 0 := by simpa using h
  obtain ⟨e1, e2⟩ := snapR_len ho he
  refine aw_skip (hK1 _ _ ?_)
  rw [addR, if_neg (fun q => q he), e1]
  refine aw_sr rfl ?_  -- r4 @store.go:207
  simp only [go_sem, reduceIte, Nat.reduceEqDiff, Nat.reduceAdd, Nat.reduceMul, Nat.reduceSub, Nat.reduceLeDiff, Nat.reduceLT, reduceCtorEq]
  refine goA_q (q_part (snapB x) false .no e2) ?_
  simp only [go_sem, reduceIte, Nat.reduceEqDiff, Nat.reduceAdd, Nat.reduceMul, Nat.reduceSub, Nat.reduceLeDiff, Nat.reduceLT, reduceCtorEq]
  have hpl := partB_len (snapB x)
  have hcat : catB [(log, nl), (partB (snapB x), false)] = log ++ partB (snapB x) := by simp [catB]
  have hq := q_Concat [(log, nl), (partB (snapB x), false)] false .full (show 2 ≤ 1048576 by decide) (by rw [hcat, List.length_append]; omega) (by rw [hcat, List.length_append]; omega)
  rw [hcat] at hq
  refine goA_q hq ?_
  simp only [go_sem, reduceIte, Nat.reduceEqDiff, Nat.reduceAdd, Nat.reduceMul, Nat.reduceSub, Nat.reduceLeDiff, Nat.reduceLT, reduceCtorEq]
  exact aw_ret ⟨trivial, _, rfl, Vle.refl _, hsB⟩
namespace storeLast
theorem law0 (y : List UInt8 × Bool) (x : Snp) (hy : (y.2 = true → y.1 = []) ∧ y.1.length ≤ bulk) (hx : SmSnp x) : Quiet Tryz.prog 3 [.sl (bytesV y.1) y.2 .no, .agg (cSnp x)] (.bool true) := by
  have ho := hx.ok
  have hll : y.1.length ≤ 1048576 := hy.2
  have q1 := q_Last y.1 y.2 hy.1 hy.2
  have q2 := q_SnapLast y.1 y.2 hy.2
  have hf := lastF_fine y.1 (y.1.length + 1) zSnp 0 0 FineN.zero
  generalize lastF y.1 (y.1.length + 1) zSnp 0 0 = R at q1 q2 hf
  obtain ⟨s, m, a, e⟩ := R
  refine Quiet.weak fun G => ?_
  refine acall_body (rs := [.tmp 4]) Tryz.func3 rfl rfl Tryz.ntmps3 (by kernel_rfl) (Nat.le_of_ble_eq_true rfl) ?_
  refine aw_sr rfl ?_  -- r0 @low.go:327
  simp only [go_sem, reduceIte, Nat.reduceEqDiff, Nat.reduceAdd, Nat.reduceMul, Nat.reduceSub, Nat.reduceLeDiff, Nat.reduceLT, reduceCtorEq]
  intro b3 hb3
  refine aw_box1 hb3 fun B1 hs1 h3 => ?_
  have hsB := hs1
  refine aw_sr rfl ?_  -- r1 @low.go:328
  simp only [go_sem, reduceIte, Nat.reduceEqDiff, Nat.reduceAdd, Nat.reduceMul, Nat.reduceSub, Nat.reduceLeDiff, Nat.reduceLT, reduceCtorEq]
  refine goA_q q1 ?_
  simp only [go_sem, reduceIte, Nat.reduceEqDiff, Nat.reduceAdd, Nat.reduceMul, Nat.reduceSub, Nat.reduceLeDiff, Nat.reduceLT, reduceCtorEq]
  intro b5 hb5
  refine aw_box1 hb5 fun B2 hs2 h5 => ?_
  replace h3 := hs2 _ _ h3
  replace hsB := sub_trans hsB hs2
  refine aw_sr rfl ?_  -- r2 @low.go:329
  simp only [go_sem, reduceIte, Nat.reduceEqDiff, Nat.reduceAdd, Nat.reduceMul, Nat.reduceSub, Nat.reduceLeDiff, Nat.reduceLT, reduceCtorEq]
  refine goA_q q2 ?_
  simp only [go_sem, reduceIte, Nat.reduceEqDiff, Nat.reduceAdd, Nat.reduceMul, Nat.reduceSub, Nat.reduceLeDiff, Nat.reduceLT, reduceCtorEq]
  intro b9 hb9
  refine aw_box1 hb9 fun B3 hs3 h9 => ?_
  replace h3 := hs3 _ _ h3
  replace h5 := hs3 _ _ h5
  replace hsB := sub_trans hsB hs3
  refine aw_seq fun K1 hK1 => ?_
  refine aw_sr rfl ?_  -- r3 @low.go:330
  simp only [go_sem, reduceIte, Nat.reduceEqDiff, Nat.reduceAdd, Nat.reduceMul, Nat.reduceSub, Nat.reduceLeDiff, Nat.reduceLT, reduceCtorEq, h5, h9]
  refine goA_q (q_sameSnap s hf) ?_
  simp only [go_sem, reduceIte, Nat.reduceEqDiff, Nat.reduceAdd, Nat.reduceMul, Nat.reduceSub, Nat.reduceLeDiff, Nat.reduceLT, reduceCtorEq, h5, h9]
  refine aw_if rfl (fun h => by simp at h) (fun h => ?_)
  refine aw_skip (hK1 _ _ ?_)
  refine aw_seq fun K2 hK2 => ?_
  refine aw_sr rfl ?_  -- r5 @low.go:333
  simp only [go_sem, reduceIte, Nat.reduceEqDiff, Nat.reduceAdd, Nat.reduceMul, Nat.reduceSub, Nat.reduceLeDiff, Nat.reduceLT, reduceCtorEq, h3]
  refine goA_qb (q_smallN x hx) fun sm => ?_
  simp only [go_sem, reduceIte, Nat.reduceEqDiff, Nat.reduceAdd, Nat.reduceMul, Nat.reduceSub, Nat.reduceLeDiff, Nat.reduceLT, reduceCtorEq, h3]
  refine aw_if rfl (fun h => ?_) (fun h => ?_)
  · refine aw_sr rfl ?_  -- r6 @low.go:334
    simp only [go_sem, reduceIte, Nat.reduceEqDiff, Nat.reduceAdd, Nat.reduceMul, Nat.reduceSub, Nat.reduceLeDiff, Nat.reduceLT, reduceCtorEq]
    exact aw_ret ⟨trivial, _, rfl, Vle.refl _, hsB⟩
  refine aw_skip (hK2 _ _ ?_)
  refine aw_sr rfl ?_  -- r7 @low.go:336
  simp only [go_sem, reduceIte, Nat.reduceEqDiff, Nat.reduceAdd, Nat.reduceMul, Nat.reduceSub, Nat.reduceLeDiff, Nat.reduceLT, reduceCtorEq, h3]
  refine goA_q (q_Add y.1 y.2 x hy.2 ho) ?_
  simp only [go_sem, reduceIte, Nat.reduceEqDiff, Nat.reduceAdd, Nat.reduceMul, Nat.reduceSub, Nat.reduceLeDiff, Nat.reduceLT, reduceCtorEq, h3]
  refine aw_sr rfl ?_  -- r8 @low.go:337
  simp only [go_sem, reduceIte, Nat.reduceEqDiff, Nat.reduceAdd, Nat.reduceMul, Nat.reduceSub, Nat.reduceLeDiff, Nat.reduceLT, reduceCtorEq, h3]
  refine goA_q (q_SnapBytes x ho) ?_
  simp only [go_sem, reduceIte, Nat.reduceEqDiff, Nat.reduceAdd, Nat.reduceMul, Nat.reduceSub, Nat.reduceLeDiff, Nat.reduceLT, reduceCtorEq, h3]
  refine aw_seq fun K3 hK3 => ?_
  refine aw_sr rfl ?_  -- r9 @low.go:338
  simp only [go_sem, reduceIte, Nat.reduceEqDiff, Nat.reduceAdd, Nat.reduceMul, Nat.reduceSub, Nat.reduceLeDiff, Nat.reduceLT, reduceCtorEq]
  refine aw_if rfl (fun h => ?_) (fun h => ?_)
  · have he : (snapR x).2 ≠ 0 := by simpa using h
    have ha : addR y.1 x = (([], true), (snapR x).2) := by rw [addR, if_pos he]
    refine aw_sr rfl ?_  -- r10 @low.go:339
    simp only [go_sem, reduceIte, Nat.reduceEqDiff, Nat.reduceAdd, Nat.reduceMul, Nat.reduceSub, Nat.reduceLeDiff, Nat.reduceLT, reduceCtorEq, ha]
    refine aw_ret ⟨trivial, _, rfl, ?_, hsB⟩
    simp
    exact Vle.refl _
  have he : (snapR x).2 = 0 := by simpa using h
  obtain ⟨e1, e2⟩ := snapR_len ho he
  have ha : addR y.1 x = ((y.1 ++ partB (snapB x), false), 0) := by rw [addR, if_neg (fun q => q he)]
  have hpl := partB_len (snapB x)
  have h64 : IntKind.i64.bits = 64 := rfl
  have c1 : (((snapB x).length : Nat) : Int).fdiv (2 ^ (Nat.min (Int.toNat 24) 64)) = ((snapB x).length : Int) / 16777216 := by rw [Int.fdiv_eq_ediv_of_nonneg _ (by decide)]; rfl
  have c2 : (((snapB x).length : Nat) : Int).fdiv (2 ^ (Nat.min (Int.toNat 16) 64)) = ((snapB x).length : Int) / 65536 := by rw [Int.fdiv_eq_ediv_of_nonneg _ (by decide)]; rfl
  have c3 : (((snapB x).length : Nat) : Int).fdiv (2 ^ (Nat.min (Int.toNat 8) 64)) = ((snapB x).length : Int) / 256 := by rw [Int.fdiv_eq_ediv_of_nonneg _ (by decide)]; rfl
  refine aw_skip (hK3 _ _ ?_)
  rw [ha, e1]
  refine aw_sr rfl ?_  -- r11 @low.go:341
  simp only [go_sem, reduceIte, Nat.reduceEqDiff, Nat.reduceAdd, Nat.reduceMul, Nat.reduceSub, Nat.reduceLeDiff, Nat.reduceLT, reduceCtorEq]
  refine aw_sr rfl ?_  -- r12 @low.go:342
  simp only [go_sem, reduceIte, Nat.reduceEqDiff, Nat.reduceAdd, Nat.reduceMul, Nat.reduceSub, Nat.reduceLeDiff, Nat.reduceLT, reduceCtorEq, c1, c2, c3, cons_bytesV]
  refine ⟨fun _ => by decide, fun _ => by decide, fun _ => by decide, fun _ => by omega, fun _ => by simp only [List.length_append, List.length_cons, List.length_nil]; omega, ?_⟩
  refine aw_ret ⟨trivial, _, rfl, ?_, hsB⟩
  rw [decide_eq_true (by rw [partB, List.append_assoc])]
  exact Vle.refl _
end storeLast
end Go.Proofs.YtlgfffngojlffaaGreat

/- The law StoreLast for what comes in. No conditions but sizes. -/
set_option linter.unusedSimpArgs false
set_option linter.unusedVariables false
namespace Go.Proofs.YtlgfffngojlffaaGreat.storeLast
open Go.Proofs.YtlgfffngojlffaaGreatV
set_option maxRecDepth 100000
theorem law (x0 : D22) (x1 : D26) (q0 : o22 x0) (q1 : o26 x1) : Quiet Tryz.prog 3 [.sl (bytesV x0.1) x0.2 .no, .agg (e26 x1)] (.bool true) := law0 x0 x1 q0 q1
end Go.Proofs.YtlgfffngojlffaaGreat.storeLast

/- 'roadlaw5.StoreLast' returns true for every input whose bulk is at most 1048576 values and letters (the statement's own bound): . No other condition. -/
set_option linter.unusedSimpArgs false
set_option linter.unusedVariables false
set_option maxRecDepth 100000
namespace Go.Proofs.YtlgfffngojlffaaGreat.storeLast
open Go.ChangeShapes Go.WideShapes Go.ChangeAt Go.RowKit
open Go.Proofs.YtlgfffngojlffaaGreatV
theorem own : ownKnob Tryz.prog.godebug = none := by kernel_rfl
theorem laidOut : laidOutB Tryz.prog = true := by kernel_rfl
theorem uBool : Tryz.prog.underlying 4 = some .bool := by kernel_rfl
theorem typed {xs : List V} (h : TyAll Tryz.prog [22, 26] xs) (hs : vszL xs ≤ 1048576) : Quiet Tryz.prog 3 xs (.bool true) := by
  obtain ⟨x0, x1, rfl, q0, q1⟩ := args h hs
  exact law x0 x1 q0 q1
theorem contract (H : Type) (enc : TypeId × Value → H) (W : World) (base : Nat) (args : Array Value) (ds gs : List (DataW H)) (before : List MemPlace)
    (hval : ∀ (j : Nat) t v, Tryz.f3.params[j]? = some t → args[j]? = some v → Value.okWide Tryz.prog W .any base t v)
    (hW : DataW.Whole enc Tryz.prog Tryz.f3.params.toList Rows.storeLastSpec.vars false W args.toList ds gs before) (hk : Rows.uptoSmall H (ds ++ gs) = true) :
    Calls Tryz.prog 3 args W fun e W' => ∃ v, e = .returned v ∧ Rows.storeLastSpec.post enc Tryz.prog Tryz.f3 false true false false W args v W' := by
  have hW' := hW
  obtain ⟨p, q, hA0, hV, rfl, hfz, hnd⟩ := hW
  have hA : DataW.TrodAll enc Tryz.prog W 0 (fun _ => true) true Tryz.f3.params.toList args.toList ds p := hA0
  obtain ⟨rfl, rfl⟩ := trodVars_none hV
  rw [Tryz.params3] at hA hval
  obtain ⟨xs, hr, ht, hs⟩ := trod_all (fun j t v hj hv => hval j t v (by simpa using hj) (by simpa using hv)) hA
  have hk' : Rows.uptoBulkAll (ds ++ []) ≤ 1048576 := of_decide_eq_true hk
  rw [List.append_nil] at hk'
  have hq := typed ht (Nat.le_trans hs hk')
  refine (ACall.calls (hq []) Tryz.func3 rfl rfl hr).mono fun e W' ⟨v, he, bel, M', x, G', hx, hxe, _⟩ => ?_
  subst hxe
  have hv := hx.bool_inv
  subst he hv
  have hst := trod_stays laidOut bel (by kernel_rfl) hA
  obtain ⟨v0, vs0, d0, ds0, p0, q0, hargs, rfl, rfl, h0, r0⟩ := trodAll_cons hA
  obtain ⟨v1, vs1, d1, ds1, p1, q1, rfl, rfl, rfl, h1, r1⟩ := trodAll_cons r0
  obtain ⟨rfl, rfl, rfl⟩ := trodAll_nil r1
  exact ⟨_, rfl, _, _, _, [], _, [], hW', trodAll_mk1 (shut_bool uBool _), hst, rfl, bel.frame _, fun h => by cases h⟩
set_option maxRecDepth 100000 in
theorem lifted (os : Os) (started : os.Started) (H : Type) (enc : TypeId × Value → H) (F : Stop.Interp) :
    ReturnsInHanded {} Tryz.checked os 3 .any ((Rows.OpenSpec.upto Rows.storeLastSpec).pre6 enc Tryz.prog Tryz.f3 Rows.storeLastUptoRow.domain false) (((Rows.OpenSpec.upto Rows.storeLastSpec).at F).post enc Tryz.prog Tryz.f3 false true false false) := by
  refine returnsInHanded_of_cond (C := Tryz.checked) (s := Rows.OpenSpec.upto Rows.storeLastSpec) (k := Rows.uptoSmall) rfl own started (by kernel_rfl) Tryz.func3
    (OpenSpec.witness (enc := enc) (C := Tryz.checked) (s := Rows.OpenSpec.upto Rows.storeLastSpec) (k := Rows.uptoSmall) rfl false ⟨#[], #[(.slice none 0 0), (.agg #[(.int .i64 0), (.slice none 0 0), (.slice none 0 0)])], []⟩ 8 (by kernel_rfl) (by kernel_rfl) (by kernel_rfl)
      (x := ([.nil, (.agg [(.lit (.int .i64 0)), .nil, .nil])], [], [])) (by kernel_rfl) rfl (by kernel_rfl)) ?_
  intro W base args ds gs before hval hW _ hk _
  exact contract H enc W base args ds gs before hval hW hk
set_option maxHeartbeats 4000000 in
theorem joined : joinedFacts Tryz.pinned.checked.prog 3 Tryz.f3 (Rows.OpenSpec.upto Rows.storeLastSpec).bare Rows.storeLastUptoRow = true := by
  unfold joinedFacts
  simp only [Bool.and_eq_true]
  repeat' apply And.intro
  all_goals (as_aux_lemma => kernel_rfl)
theorem over : Rows.storeLastUptoRow.holds Tryz.pinned (Rows.OpenSpec.upto Rows.storeLastSpec) :=
  OpenClaim.holds_of_cond 3 Tryz.f3 rfl rfl rfl rfl rfl rfl rfl ⟨rfl, rfl, rfl, rfl, rfl⟩ rfl rfl rfl rfl rfl (by kernel_rfl) Tryz.func3 joined
    (of_decide_eq_true (by kernel_rfl)) (by unfold Func.isWrapper; first | (rw [if_pos (by decide +kernel)]; kernel_rfl) | (rw [if_neg (by decide +kernel)]; exact ⟨rfl, rfl⟩))
    (fun os started H enc _ F => lifted os started H enc F)
theorem proved : Rows.StoreLastUptoSaid := over
#print axioms proved
end Go.Proofs.YtlgfffngojlffaaGreat.storeLast
