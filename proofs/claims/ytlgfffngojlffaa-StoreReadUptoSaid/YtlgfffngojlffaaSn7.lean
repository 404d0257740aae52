/- Part 7 of a proof laid in parts; each part's own comment says what it proves and under which conditions. -/
import Derived.Test.YtlgfffngojlffaaSn6
import Derived.Test.YtlgfffngojlffaaSn3
import Derived.Test.YtlgfffngojlffaaRows
import Derived.WalkKit
import Derived.ProofKit
import Derived.OpenShut
import Derived.JoinedCond
/- A way that is read of a piece. No conditions. -/
set_option linter.unusedSimpArgs false
set_option linter.unusedVariables false
namespace Go.Proofs.Ytlgfffngojlffaa
open Go.Proofs.YtlgfffngojlffaaV
set_option maxHeartbeats 400000
set_option maxRecDepth 100000
theorem scanL_mem : ∀ (n : Nat) (b : List UInt8), b.length ≤ n → ∀ x ∈ (scanL b).1, x.length ≤ b.length
  | n, [], _, x, hx => by simp [scanL] at hx
  | n, [a], _, x, hx => by simp [scanL] at hx
  | 0, a :: c :: r, h, x, hx => by simp at h
  | n + 1, a :: c :: r, h, x, hx => by
    rw [scanL] at hx
    simp only [List.length_cons] at h ⊢
    split at hx
    · simp at hx
    · rcases List.mem_cons.1 hx with rfl | hx
      · rw [List.length_take]; omega
      · have := scanL_mem n _ (by rw [List.length_drop]; omega) x hx
        rw [List.length_drop] at this
        omega
noncomputable def rdL (b : List UInt8) : Lt := (readLF b).1
abbrev wyZ : List V := [.int .i64 0, .int .i64 0, .sl [] true .full]
noncomputable def wayV (x : List UInt8) : V := match wayF x with
  | none => .tup [.agg [.int .i64 0, .int .i64 0, .sl [] true .no], .bool false]
  | some w => .tup [.agg (cWyt w), .bool (decide ((scanL (x.drop 2)).2 = x.length - 2))]
theorem all_next {A : Type} {q : A → Bool} {xs : List A} {i : Nat} (hi : i < xs.length) (h : (xs.take i).all q = true) (he : q xs[i] = true) : (xs.take (i + 1)).all q = true := by
  rw [List.take_succ_eq_append_getElem hi, List.all_append, h]
  simp [he]
theorem all_fail {A : Type} {q : A → Bool} {xs : List A} {i : Nat} (hi : i < xs.length) (he : q xs[i] = false) : ¬ xs.all q = true := by
  intro h
  rw [List.all_eq_true] at h
  rw [h _ (List.getElem_mem hi)] at he
  cases he
theorem q_readWay (x : List UInt8) (hb : x.length ≤ bulk) : Quiet Try.prog 183 [.sl (bytesV x) false .no] (wayV x) := by
  have hbl : x.length ≤ 1048576 := hb
  refine Quiet.weak fun G => ?_
  refine acall_body (rs := [.cell 2 297, .tmp 3]) Try.func183 rfl rfl Try.ntmps183 (by kernel_rfl) (Nat.le_of_ble_eq_true rfl) ?_
  refine aw_sr rfl ?_  -- r0 @store.go:150
  simp only [go_sem, reduceIte, Nat.reduceEqDiff, Nat.reduceAdd, Nat.reduceMul, Nat.reduceSub, Nat.reduceLeDiff, Nat.reduceLT, reduceCtorEq]
  intro b2 hb2
  refine aw_box1 hb2 fun B1 hs1 h2 => ?_
  have hsB := hs1
  refine aw_seq fun K4 hK4 => ?_
  refine aw_sr rfl ?_  -- r1 @store.go:151
  simp only [go_sem, reduceIte, Nat.reduceEqDiff, Nat.reduceAdd, Nat.reduceMul, Nat.reduceSub, Nat.reduceLeDiff, Nat.reduceLT, reduceCtorEq]
  refine aw_if rfl (fun h => ?_) (fun h => ?_)
  · have hlt : x.length < 2 := by rw [decide_eq_true_eq] at h; omega
    refine aw_sr rfl ?_  -- r2 @store.go:152
    simp only [go_sem, reduceIte, Nat.reduceEqDiff, Nat.reduceAdd, Nat.reduceMul, Nat.reduceSub, Nat.reduceLeDiff, Nat.reduceLT, reduceCtorEq, h2]
    have h24 := hget_hset_self (y := .vars wyZ) h2
    refine aw_ret ⟨trivial, ?_⟩
    simp only [go_sem, reduceIte, Nat.reduceEqDiff, Nat.reduceAdd, Nat.reduceMul, Nat.reduceSub, Nat.reduceLeDiff, Nat.reduceLT, reduceCtorEq, resL, resOf, h24]
    refine ⟨_, rfl, ?_, sub_hset_fresh hb2 hsB⟩
    rw [wayV, wayF, if_pos hlt]
    exact Vle.tupL (.cons (Vle.aggL (by repeat (first | exact .nil | refine .cons (Vle.refl _) ?_ | refine .cons Vle.untag ?_ | refine .cons (Vle.aggL ?_) ?_ | refine .cons (Vle.slE ?_) ?_))) (.cons (Vle.refl _) .nil))
  have hge : 2 ≤ x.length := by rw [decide_eq_false_iff_not] at h; omega
  refine aw_skip (hK4 _ _ ?_)
  have c0 := (x.getD 0 0).toNat_lt
  have c1 := (x.getD 1 0).toNat_lt
  refine aw_srd [(0,true),(1,true),(2,true),(3,true),(4,true),(5,true),(6,true),(7,true),(8,true),(9,false),(10,false)] mixed rfl (by kernel_rfl) ?_  -- r3 @store.go:154
  simp only [go_sem, reduceIte, Nat.reduceEqDiff, Nat.reduceAdd, Nat.reduceMul, Nat.reduceSub, Nat.reduceLeDiff, Nat.reduceLT, reduceCtorEq, Int.toNat_zero, toNat1, getD_b (show 0 < x.length by omega), getD_b (show 1 < x.length by omega), wrap_c c0, wrap_c c1]
  refine ⟨⟨by omega, by omega, wid_bytes _⟩, ⟨by omega, by omega, wid_bytes _⟩, ?_⟩
  intro b4 hb4
  have n24 : ¬ b2 = b4 := ne_fresh h2 hb4
  have hG4 : hget G b4 = none := none_sub hs1 hb4
  refine aw_box1 hb4 fun B2 hs2 h4 => ?_
  replace h2 := hs2 _ _ h2
  replace hsB := sub_trans hsB hs2
  refine aw_sr rfl ?_  -- r4 @store.go:155
  simp only [go_sem, reduceIte, Nat.reduceEqDiff, Nat.reduceAdd, Nat.reduceMul, Nat.reduceSub, Nat.reduceLeDiff, Nat.reduceLT, reduceCtorEq, toNat2, take_bytesV, drop_bytesV, List.take_length, sliceTag_no, show ((List.length x : Nat) : Int).toNat = x.length from rfl]
  refine ⟨⟨⟨by omega, by omega⟩, wid_bytes _⟩, ?_⟩
  refine goA_q (q_Scan (x.drop 2) false .no (by rw [List.length_drop]; omega) (fun e => by cases e)) ?_
  simp only [go_sem, reduceIte, Nat.reduceEqDiff, Nat.reduceAdd, Nat.reduceMul, Nat.reduceSub, Nat.reduceLeDiff, Nat.reduceLT, reduceCtorEq]
  have hmem := scanL_mem _ (x.drop 2) (Nat.le_refl _)
  have hlen := scanL_len (x.drop 2)
  rw [List.length_drop] at hmem hlen
  have hwF : wayF x = if (scanL (x.drop 2)).1.all okL = true then some (at0 x 0, at0 x 1, ((scanL (x.drop 2)).1.map rdL), (scanL (x.drop 2)).1.isEmpty) else none := by rw [wayF, if_neg (by omega)]; rfl
  have hwV : ∀ w, wayF x = some w → wayV x = .tup [.agg (cWyt w), .bool (decide ((scanL (x.drop 2)).2 = x.length - 2))] := fun w h => by rw [wayV, h]
  have hwN : wayF x = none → wayV x = .tup [.agg [.int .i64 0, .int .i64 0, .sl [] true .no], .bool false] := fun h => by rw [wayV, h]
  generalize hL : (scanL (x.drop 2)).1 = L at *
  generalize hM : (scanL (x.drop 2)).2 = m at *
  rw [show (L.map fun p => ePc (p, false)) = L.map (ePn false) from rfl]
  refine aw_seq fun K5 hK5 => ?_
  refine aw_sr rfl ?_  -- r5 @store.go:156
  simp only [go_sem, reduceIte, Nat.reduceEqDiff, Nat.reduceAdd, Nat.reduceMul, Nat.reduceSub, Nat.reduceLeDiff, Nat.reduceLT, reduceCtorEq]
  refine aw_range L.length (S := Tag × Heap) (fun i _ => [(0, .sl (bytesV x) false .no), (2, .ptr b2 0), (4, .ptr b4 0), (6, .int .i64 ((m : Nat) : Int)), (30, .sl (L.map (ePn false)) L.isEmpty .no)]) (fun _ s => s.2)
    (fun i s => (L.take i).all okL = true ∧ hget s.2 b2 = some (.vars wyZ) ∧ hget s.2 b4 = some (.vars [.int .i64 (at0 x 0), .int .i64 (at0 x 1), .sl (((L.take i).map rdL).map eLt) (L.take i).isEmpty s.1]) ∧ Rm G s.2 9 s.1 ∧ Sub G s.2) (.full, B2) (by omega) ?_ (fun _ _ h => h)
    ⟨rfl, h2, by simp only [List.take_zero, List.map_nil, List.isEmpty_nil]; exact h4, Rm.start _ _ _, hsB⟩ rfl (fun _ _ => rfl) ?_ ?_ (by decide)
  · simp only [go_sem, reduceIte, Nat.reduceEqDiff, Nat.reduceAdd, Nat.reduceMul, Nat.reduceSub, Nat.reduceLeDiff, Nat.reduceLT, reduceCtorEq, Int.natCast_zero]
  · intro i ⟨t, H⟩ hi ⟨i1, i2, i3, i4, i5⟩
    simp only at i1 i2 i3 i4 i5 ⊢
    refine aw_sr rfl ?_  -- r7 @store.go:156
    simp only [go_sem, reduceIte, Nat.reduceEqDiff, Nat.reduceAdd, Nat.reduceMul, Nat.reduceSub, Nat.reduceLeDiff, Nat.reduceLT, reduceCtorEq, getD_map hi, ePn]
    refine ⟨⟨by omega, by omega, wid_ePn _ _⟩, ?_⟩
    have hlb := hmem _ (List.getElem_mem hi)
    have hfin := readLF_fine L[i]
    refine aw_sr rfl ?_  -- r8 @store.go:157
    simp only [go_sem, reduceIte, Nat.reduceEqDiff, Nat.reduceAdd, Nat.reduceMul, Nat.reduceSub, Nat.reduceLeDiff, Nat.reduceLT, reduceCtorEq]
    refine goA_q (q_ReadLetter L[i] false (by show _ ≤ 1048576; omega)) ?_
    simp only [go_sem, reduceIte, Nat.reduceEqDiff, Nat.reduceAdd, Nat.reduceMul, Nat.reduceSub, Nat.reduceLeDiff, Nat.reduceLT, reduceCtorEq]
    intro b9 hb9
    have n94 : ¬ b4 = b9 := ne_fresh i3 hb9
    have n92 : ¬ b2 = b9 := ne_fresh i2 hb9
    refine aw_box1 hb9 fun B3 hs3 h9 => ?_
    replace i2 := hs3 _ _ i2
    replace i3 := hs3 _ _ i3
    replace i4 := i4.sub hs3
    replace i5 := sub_trans i5 hs3
    refine aw_seq fun K6 hK6 => ?_
    refine aw_sr rfl ?_  -- r9 @store.go:158
    simp only [go_sem, reduceIte, Nat.reduceEqDiff, Nat.reduceAdd, Nat.reduceMul, Nat.reduceSub, Nat.reduceLeDiff, Nat.reduceLT, reduceCtorEq]
    refine aw_if rfl (fun h => ?_) (fun h => ?_)
    · have hno : okL L[i] = false := by unfold okL; simpa using h
      refine aw_sr rfl ?_  -- r10 @store.go:159
      simp only [go_sem, reduceIte, Nat.reduceEqDiff, Nat.reduceAdd, Nat.reduceMul, Nat.reduceSub, Nat.reduceLeDiff, Nat.reduceLT, reduceCtorEq, i2]
      have h24 := hget_hset_self (y := .vars wyZ) i2
      refine aw_ret ⟨trivial, ?_⟩
      simp only [go_sem, reduceIte, Nat.reduceEqDiff, Nat.reduceAdd, Nat.reduceMul, Nat.reduceSub, Nat.reduceLeDiff, Nat.reduceLT, reduceCtorEq, resL, resOf, h24]
      refine ⟨_, rfl, ?_, sub_hset_fresh hb2 i5⟩
      rw [hwN (by rw [hwF, if_neg (all_fail hi hno)])]
      exact Vle.tupL (.cons (Vle.aggL (by repeat (first | exact .nil | refine .cons (Vle.refl _) ?_ | refine .cons Vle.untag ?_ | refine .cons (Vle.aggL ?_) ?_ | refine .cons (Vle.slE ?_) ?_))) (.cons (Vle.refl _) .nil))
    have hok : okL L[i] = true := by unfold okL; simpa using h
    refine aw_skip (hK6 _ _ ?_)
    refine aw_rg rfl ?_  -- r11 @store.go:161
    simp only [go_sem, reduceIte, Nat.reduceEqDiff, Nat.reduceAdd, Nat.reduceMul, Nat.reduceSub, Nat.reduceLeDiff, Nat.reduceLT, reduceCtorEq, i3, h9]
    refine goP_rm i4 i5 ?_ fun t1 H1 hr1 hs1 hg1 => ?_
    · exact ⟨rfl, rfl, by decide, wid_eLt _, wid_one rfl, sca_one rfl, by simp; omega, by simp; omega⟩
    have u2 := hg1.vars i2
    have u3 := hg1.vars i3
    simp only [go_sem, reduceIte, Nat.reduceEqDiff, Nat.reduceAdd, Nat.reduceMul, Nat.reduceSub, Nat.reduceLeDiff, Nat.reduceLT, reduceCtorEq, u3, Bool.and_false]
    have hsn : ((L.take i).map rdL).map eLt ++ [cLt (readLF L[i]).1] = ((L.take (i + 1)).map rdL).map eLt := by
      rw [List.take_succ_eq_append_getElem hi, List.map_append, List.map_append, List.map_cons, List.map_nil, List.map_cons, List.map_nil]; rfl
    have hie : (L.take (i + 1)).isEmpty = false := by rw [List.take_succ_eq_append_getElem hi]; exact isEmpty_snoc _ _
    rw [hsn]
    generalize hH3 : hset H1 b4 _ = H3
    obtain ⟨u5, hk, _, hRm, hS⟩ := st_facts hH3 u3 (fun _ _ e => by cases e)
    refine ⟨(t1, H3), ⟨all_next hi i1 hok, hk _ _ n24 u2, ?_, hRm _ _ _ hr1, hS _ hG4 hs1⟩, ?_, sub_rfl⟩
    · rw [hie]; exact u5
    · simp only [go_sem, reduceIte, Nat.reduceEqDiff, Nat.reduceAdd, Nat.reduceMul, Nat.reduceSub, Nat.reduceLeDiff, Nat.reduceLT, reduceCtorEq]
  intro ⟨t, H⟩ ⟨i1, i2, i3, i4, i5⟩
  simp only at i1 i2 i3 i4 i5 ⊢
  rw [List.take_length] at i1 i3
  refine hK5 _ _ ?_
  refine aw_sr rfl ?_  -- r13 @store.go:163
  simp only [go_sem, reduceIte, Nat.reduceEqDiff, Nat.reduceAdd, Nat.reduceMul, Nat.reduceSub, Nat.reduceLeDiff, Nat.reduceLT, reduceCtorEq, i3, i2, show IntKind.i64.wrap ((x.length : Int) - 2) = ((x.length - 2 : Nat) : Int) by rw [wrap64 (by omega) (by omega)]; omega]
  have h24 := hget_hset_self (y := .vars [.int .i64 (at0 x 0), .int .i64 (at0 x 1), .sl ((L.map rdL).map eLt) L.isEmpty t]) i2
  refine aw_ret ⟨trivial, ?_⟩
  simp only [go_sem, reduceIte, Nat.reduceEqDiff, Nat.reduceAdd, Nat.reduceMul, Nat.reduceSub, Nat.reduceLeDiff, Nat.reduceLT, reduceCtorEq, resL, resOf, h24]
  refine ⟨_, rfl, ?_, sub_hset_fresh hb2 i5⟩
  rw [hwV _ (by rw [hwF, if_pos i1])]
  have hd : decide (((m : Nat) : Int) = ((x.length - 2 : Nat) : Int)) = decide (m = x.length - 2) := by rw [Bool.eq_iff_iff, decide_eq_true_eq, decide_eq_true_eq]; omega
  rw [← hd]
  exact Vle.tupL (.cons (Vle.aggL (by repeat (first | exact .nil | refine .cons (Vle.refl _) ?_ | refine .cons Vle.untag ?_ | refine .cons (Vle.aggL ?_) ?_ | refine .cons (Vle.slE ?_) ?_))) (.cons (Vle.refl _) .nil))
end Go.Proofs.Ytlgfffngojlffaa

/- Read: what is read of bytes is the snapshot that they were written for; other bytes are none of a snapshot's. No conditions. -/
set_option linter.unusedSimpArgs false
set_option linter.unusedVariables false
namespace Go.Proofs.Ytlgfffngojlffaa
open Go.Proofs.YtlgfffngojlffaaV
set_option maxHeartbeats 400000
set_option maxRecDepth 100000
abbrev snZ : List V := [.int .i64 0, .sl [] true .full, .sl [] true .full]
theorem q_ReadNo : Quiet Try.prog 181 [] (.tup [.agg snZ, .int .i64 3]) := by
  refine Quiet.weak fun G => ?_
  refine acall_body (rs := [.cell 0 156, .tmp 1]) Try.func181 rfl rfl Try.ntmps181 (by kernel_rfl) (Nat.le_of_ble_eq_true rfl) ?_
  refine aw_sr rfl ?_  -- r0 @store.go:168
  simp only [go_sem, reduceIte, Nat.reduceEqDiff, Nat.reduceAdd, Nat.reduceMul, Nat.reduceSub, Nat.reduceLeDiff, Nat.reduceLT, reduceCtorEq]
  intro b0 hb0
  refine aw_box1 hb0 fun B1 hs1 h0 => ?_
  refine aw_sr rfl ?_  -- r1 @store.go:168
  simp only [go_sem, reduceIte, Nat.reduceEqDiff, Nat.reduceAdd, Nat.reduceMul, Nat.reduceSub, Nat.reduceLeDiff, Nat.reduceLT, reduceCtorEq, h0]
  have h24 := hget_hset_self (y := .vars snZ) h0
  refine aw_ret ⟨trivial, ?_⟩
  simp only [go_sem, reduceIte, Nat.reduceEqDiff, Nat.reduceAdd, Nat.reduceMul, Nat.reduceSub, Nat.reduceLeDiff, Nat.reduceLT, reduceCtorEq, resL, resOf, h24]
  exact ⟨_, rfl, Vle.refl _, sub_hset_fresh hb0 hs1⟩
theorem no_vle : Vle (.tup [.agg snZ, .int .i64 3]) (pairN (zSnp, 3)) := Vle.tupL (.cons (Vle.aggL (by repeat (first | exact .nil | refine .cons (Vle.refl _) ?_ | refine .cons Vle.untag ?_ | refine .cons (Vle.aggL ?_) ?_ | refine .cons (Vle.slE ?_) ?_))) (.cons (Vle.refl _) .nil))
theorem snapR_ok {v : Snp} {b : List UInt8} (h1 : (snapR v).2 = 0) (h2 : (snapR v).1.1 = b) : checkN v = 0 ∧ v.2.2.1.any bigW = false ∧ snapB v = b := by
  unfold snapR at h1 h2
  split at h1
  · rename_i h; exact absurd h1 h
  · rename_i h
    split at h1
    · cases h1
    · rename_i hb
      rw [if_neg h, if_neg hb] at h2
      exact ⟨by simpa using h, by simpa using hb, h2⟩
theorem snapR_good {v : Snp} (h : GoodN v) : snapR v = ((snapB v, false), 0) := by
  unfold snapR
  rw [if_neg (by rw [h.2.1]; simp), if_neg (by rw [h.2.2]; simp)]
theorem time_or {t c : Int} (h0 : 0 ≤ t) (hc : 0 ≤ c ∧ c ≤ 255) (h : t * 256 + c ≤ 9223372036854775807) : bits BinOp.or IntKind.i64 (IntKind.i64.wrap (t * 2 ^ 8)) c = t * 256 + c := by
  obtain ⟨tn, rfl⟩ := Int.eq_ofNat_of_zero_le h0
  obtain ⟨cn, rfl⟩ := Int.eq_ofNat_of_zero_le hc.1
  have e : ((tn : Nat) : Int) * 2 ^ 8 = ((tn * 2 ^ 8 : Nat) : Int) := by rw [Int.natCast_mul, Int.natCast_pow]; rfl
  have e8 : (2 : Nat) ^ 8 = 256 := rfl
  have e63 : (2 : Nat) ^ 63 = 9223372036854775808 := rfl
  rw [e, wrap64 (by omega) (by omega), orI_hi (m := 8) (by omega) (by omega)]
  omega
theorem q_Read (b : List UInt8) (nl : Bool) (hnl : nl = true → b = []) (hb : b.length ≤ bulk) : Quiet Try.prog 80 [.sl (bytesV b) nl .no] (pairN (readNF b)) := by
  have hbl : b.length ≤ 1048576 := hb
  refine Quiet.weak fun G => ?_
  refine acall_body (rs := [.cell 2 156, .tmp 3]) Try.func80 rfl rfl Try.ntmps80 (by kernel_rfl) (Nat.le_of_ble_eq_true rfl) ?_
  refine aw_sr rfl ?_  -- r0 @store.go:167
  simp only [go_sem, reduceIte, Nat.reduceEqDiff, Nat.reduceAdd, Nat.reduceMul, Nat.reduceSub, Nat.reduceLeDiff, Nat.reduceLT, reduceCtorEq]
  intro b2 hb2
  refine aw_box1 hb2 fun B1 hs1 h2 => ?_
  have hsB := hs1
  refine aw_sr rfl ?_  -- r1 @store.go:168
  simp only [go_sem, reduceIte, Nat.reduceEqDiff, Nat.reduceAdd, Nat.reduceMul, Nat.reduceSub, Nat.reduceLeDiff, Nat.reduceLT, reduceCtorEq]
  refine aw_seq fun K7 hK7 => ?_
  refine aw_sr rfl ?_  -- r2 @store.go:169
  simp only [go_sem, reduceIte, Nat.reduceEqDiff, Nat.reduceAdd, Nat.reduceMul, Nat.reduceSub, Nat.reduceLeDiff, Nat.reduceLT, reduceCtorEq]
  refine aw_if rfl (fun h => ?_) (fun h => ?_)
  · refine aw_sr rfl ?_  -- r3 @store.go:170
    simp only [go_sem, reduceIte, Nat.reduceEqDiff, Nat.reduceAdd, Nat.reduceMul, Nat.reduceSub, Nat.reduceLeDiff, Nat.reduceLT, reduceCtorEq, h2]
    refine goA_q q_ReadNo ?_
    simp only [go_sem, reduceIte, Nat.reduceEqDiff, Nat.reduceAdd, Nat.reduceMul, Nat.reduceSub, Nat.reduceLeDiff, Nat.reduceLT, reduceCtorEq, h2]
    have h24 := hget_hset_self (y := .vars snZ) h2
    refine aw_ret ⟨trivial, ?_⟩
    simp only [go_sem, reduceIte, Nat.reduceEqDiff, Nat.reduceAdd, Nat.reduceMul, Nat.reduceSub, Nat.reduceLeDiff, Nat.reduceLT, reduceCtorEq, resL, resOf, h24]
    refine ⟨_, rfl, ?_, sub_hset_fresh hb2 hsB⟩
    rw [readNF_no (fun z hz hzb => by have := (snap_cut hz hzb hb).1; rw [decide_eq_true_eq] at h; omega)]
    exact no_vle
  have h10 : 10 ≤ b.length := by rw [decide_eq_false_iff_not] at h; omega
  have hnf : nl = false := by cases nl with | false => rfl | true => rw [hnl rfl] at h10; simp at h10
  subst hnf
  clear hnl h
  refine aw_skip (hK7 _ _ ?_)
  refine aw_sr rfl ?_  -- r4 @store.go:172
  simp only [go_sem, reduceIte, Nat.reduceEqDiff, Nat.reduceAdd, Nat.reduceMul, Nat.reduceSub, Nat.reduceLeDiff, Nat.reduceLT, reduceCtorEq]
  intro b5 hb5
  have n25 : ¬ b2 = b5 := ne_fresh h2 hb5
  have hG5 : hget G b5 = none := none_sub hs1 hb5
  refine aw_box1 hb5 fun B2 hs2 h5 => ?_
  replace h2 := hs2 _ _ h2
  replace hsB := sub_trans hsB hs2
  refine aw_seq fun K8 hK8 => ?_
  refine aw_sr rfl ?_  -- r5 @store.go:173
  simp only [go_sem, reduceIte, Nat.reduceEqDiff, Nat.reduceAdd, Nat.reduceMul, Nat.reduceSub, Nat.reduceLeDiff, Nat.reduceLT, reduceCtorEq, show Int.toNat 8 = 8 from rfl, take_bytesV, drop_bytesV, sliceTag_no]
  refine ⟨⟨⟨by omega, by omega⟩, wid_bytes _⟩, ?_⟩
  have hl8 : (b.take 8).length = 8 := by rw [List.length_take]; omega
  rw [hl8]
  refine aw_range 8 (S := Int × Heap) (fun _ _ => [(0, .sl (bytesV b) false .no), (2, .ptr b2 0), (4, .func (.func 181) [] []), (5, .ptr b5 0), (26, .sl (bytesV (b.take 8)) false .no)]) (fun _ s => s.2)
    (fun i s => InI s.1 ∧ hget s.2 b5 = some (.vars [.int .i64 s.1, .sl [] true .full, .sl [] true .full]) ∧ hget s.2 b2 = some (.vars snZ) ∧ Sub G s.2 ∧ ∀ z, GoodN z → snapB z = b → s.1 = z.1 / 256 ^ (8 - i)) (0, B2) (by decide) ?_ (fun _ _ h => h)
    ⟨⟨by show IntKind.i64.min ≤ 0; decide, by show (0 : Int) ≤ IntKind.i64.max; decide⟩, h5, h2, hsB, fun z hz hzb => ?_⟩ rfl (fun _ _ => rfl) ?_ ?_ (by decide)
  · simp only [go_sem, reduceIte, Nat.reduceEqDiff, Nat.reduceAdd, Nat.reduceMul, Nat.reduceSub, Nat.reduceLeDiff, Nat.reduceLT, reduceCtorEq, Int.natCast_zero]
  · have hc := checkN_good hz.2.1
    have hr := i64_range hz.1.1
    rw [Int.ediv_eq_zero_of_lt hc.2.1 (Int.lt_of_le_of_lt hr.2 (by decide))]
  · intro i ⟨t, H⟩ hi ⟨i1, i2, i3, i4, i5⟩
    simp only at i1 i2 i3 i4 i5 ⊢
    have hg8 : (b.take 8).getD i 0 = b.getD i 0 := by rw [List.getD_eq_getElem?_getD, List.getD_eq_getElem?_getD, List.getElem?_take_of_lt hi]
    have hci := (b.getD i 0).toNat_lt
    refine aw_sr rfl ?_  -- r7 @store.go:173
    simp only [go_sem, reduceIte, Nat.reduceEqDiff, Nat.reduceAdd, Nat.reduceMul, Nat.reduceSub, Nat.reduceLeDiff, Nat.reduceLT, reduceCtorEq, getD_b (show i < (b.take 8).length by omega), hg8]
    refine ⟨⟨by omega, by omega, wid_bytes _⟩, ?_⟩
    refine aw_rg rfl ?_  -- r8 @store.go:174
    simp only [go_sem, reduceIte, Nat.reduceEqDiff, Nat.reduceAdd, Nat.reduceMul, Nat.reduceSub, Nat.reduceLeDiff, Nat.reduceLT, reduceCtorEq, i2, wrap_c hci, show (Int.toNat 8).min 64 = 8 from rfl]
    refine ⟨by omega, ?_⟩
    generalize hH3 : hset H b5 _ = H3
    obtain ⟨u5, hk, _, _, hS⟩ := st_facts hH3 i2 (fun _ _ e => by cases e)
    refine ⟨(_, H3), ⟨bitsI_range .or _ _, u5, hk _ _ n25 i3, hS _ hG5 i4, fun z hz hzb => ?_⟩, ?_, sub_rfl⟩
    · have hc := checkN_good hz.2.1
      have hr := i64_range hz.1.1
      obtain ⟨e1, e2, e3⟩ := time_step hc.2.1 hr.2 hi (snap_cut hz hzb hb).2.1 t (i5 z hz hzb)
      rw [← e2]
      exact time_or e1 (at0_range b i) e3
    · simp only [go_sem, reduceIte, Nat.reduceEqDiff, Nat.reduceAdd, Nat.reduceMul, Nat.reduceSub, Nat.reduceLeDiff, Nat.reduceLT, reduceCtorEq]
  intro ⟨t, H0⟩ ⟨i1, i2, i3, i4, i5⟩
  simp only at i1 i2 i3 i4 i5 ⊢
  have c8 := (b.getD 8 0).toNat_lt
  have c9 := (b.getD 9 0).toNat_lt
  refine hK8 _ _ ?_
  refine aw_srd [(0,true),(1,true),(2,true),(3,true),(4,true),(5,true),(6,true),(7,true),(8,true),(9,true),(10,true),(11,true),(12,true),(13,true),(14,true),(15,true),(16,true)] mixed rfl (by kernel_rfl) ?_  -- r10 @store.go:176
  simp only [go_sem, reduceIte, Nat.reduceEqDiff, Nat.reduceAdd, Nat.reduceMul, Nat.reduceSub, Nat.reduceLeDiff, Nat.reduceLT, reduceCtorEq, show Int.toNat 8 = 8 from rfl, show Int.toNat 9 = 9 from rfl, show Int.toNat 10 = 10 from rfl, getD_b (show 8 < b.length by omega), getD_b (show 9 < b.length by omega), wrap_c c8, wrap_c c9, take_bytesV, drop_bytesV, List.take_length, sliceTag_no, show ((List.length b : Nat) : Int).toNat = b.length from rfl]
  have hw : IntKind.i64.wrap ((((b.getD 8 0).toNat : Nat) : Int) + (((b.getD 9 0).toNat : Nat) : Int)) = (((b.getD 8 0).toNat + (b.getD 9 0).toNat : Nat) : Int) := by rw [wrap64 (by omega) (by omega)]; omega
  rw [hw]
  refine ⟨⟨⟨by omega, by omega⟩, wid_bytes _⟩, ⟨by omega, by omega, wid_bytes _⟩, ⟨by omega, by omega, wid_bytes _⟩, ?_⟩
  refine goQ_by (q_parts (b.drop 10) false ((b.getD 8 0).toNat + (b.getD 9 0).toNat) (by show _ ≤ 1048576; rw [List.length_drop]; omega) (by omega)) ?_
  have hcut : ∀ z, GoodN z → snapB z = b → (b.getD 8 0).toNat = z.2.1.1.length ∧ (b.getD 9 0).toNat = z.2.2.1.length ∧ partsP (b.drop 10) ((b.getD 8 0).toNat + (b.getD 9 0).toNat) = some (piecesN z, true) := by
    intro z hz hzb
    obtain ⟨_, _, e1, e2, _, e3⟩ := snap_cut hz hzb hb
    have e1 : (b.getD 8 0).toNat = z.2.1.1.length := by unfold at0 at e1; omega
    have e2 : (b.getD 9 0).toNat = z.2.2.1.length := by unfold at0 at e2; omega
    exact ⟨e1, e2, by rw [e1, e2]; exact e3⟩
  have hpl := partsP_len ((b.getD 8 0).toNat + (b.getD 9 0).toNat) (b.drop 10)
  rw [List.length_drop] at hpl
  generalize hn8 : (b.getD 8 0).toNat = n8 at *
  generalize hn9 : (b.getD 9 0).toNat = n9 at *
  have hnoex : ∀ (H : Heap), hget H b2 = some (.vars snZ) → Sub G H → (∀ z, GoodN z → snapB z = b → False) → ∃ y G2, Vle (.tup [.agg snZ, .int .i64 3]) y ∧ (∀ (b' : Nat) (o : AObj), hget G2 b' = some o → hget (hset H b2 (.vars snZ)) b' = some o) ∧ y = pairN (readNF b) ∧ G2 = G := by
    intro H e1 e2 e3
    refine ⟨_, G, ?_, sub_hset_fresh hb2 e2, rfl, rfl⟩
    rw [readNF_no e3]
    exact no_vle
  cases hP : partsP (b.drop 10) (n8 + n9) with
  | none =>
    simp only [go_sem, reduceIte, Nat.reduceEqDiff, Nat.reduceAdd, Nat.reduceMul, Nat.reduceSub, Nat.reduceLeDiff, Nat.reduceLT, reduceCtorEq, partsV]
    refine aw_seq fun K9 hK9 => ?_
    refine aw_sr rfl ?_  -- r11 @store.go:177
    simp only [go_sem, reduceIte, Nat.reduceEqDiff, Nat.reduceAdd, Nat.reduceMul, Nat.reduceSub, Nat.reduceLeDiff, Nat.reduceLT, reduceCtorEq]
    refine aw_if rfl (fun h => ?_) (fun h => by simp at h)
    refine aw_sr rfl ?_  -- r12 @store.go:178
    simp only [go_sem, reduceIte, Nat.reduceEqDiff, Nat.reduceAdd, Nat.reduceMul, Nat.reduceSub, Nat.reduceLeDiff, Nat.reduceLT, reduceCtorEq, i3]
    refine goA_q q_ReadNo ?_
    simp only [go_sem, reduceIte, Nat.reduceEqDiff, Nat.reduceAdd, Nat.reduceMul, Nat.reduceSub, Nat.reduceLeDiff, Nat.reduceLT, reduceCtorEq, i3]
    have h24 := hget_hset_self (y := .vars snZ) i3
    refine aw_ret ⟨trivial, ?_⟩
    simp only [go_sem, reduceIte, Nat.reduceEqDiff, Nat.reduceAdd, Nat.reduceMul, Nat.reduceSub, Nat.reduceLeDiff, Nat.reduceLT, reduceCtorEq, resL, resOf, h24]
    refine ⟨_, rfl, ?_, sub_hset_fresh hb2 i4⟩
    rw [readNF_no (fun z hz hzb => by have := (hcut z hz hzb).2.2; rw [hP] at this; cases this)]
    exact no_vle
  | some q =>
    obtain ⟨L, ok⟩ := q
    obtain ⟨hL1, hL2, hL3⟩ := hpl _ hP
    simp only at hL1 hL2 hL3
    simp only [go_sem, reduceIte, Nat.reduceEqDiff, Nat.reduceAdd, Nat.reduceMul, Nat.reduceSub, Nat.reduceLeDiff, Nat.reduceLT, reduceCtorEq, partsV]
    refine aw_seq fun K9 hK9 => ?_
    refine aw_sr rfl ?_  -- r11 @store.go:177
    simp only [go_sem, reduceIte, Nat.reduceEqDiff, Nat.reduceAdd, Nat.reduceMul, Nat.reduceSub, Nat.reduceLeDiff, Nat.reduceLT, reduceCtorEq]
    refine aw_if rfl (fun h => ?_) (fun h => ?_)
    · refine aw_sr rfl ?_  -- r12 @store.go:178
      simp only [go_sem, reduceIte, Nat.reduceEqDiff, Nat.reduceAdd, Nat.reduceMul, Nat.reduceSub, Nat.reduceLeDiff, Nat.reduceLT, reduceCtorEq, i3]
      refine goA_q q_ReadNo ?_
      simp only [go_sem, reduceIte, Nat.reduceEqDiff, Nat.reduceAdd, Nat.reduceMul, Nat.reduceSub, Nat.reduceLeDiff, Nat.reduceLT, reduceCtorEq, i3]
      have h24 := hget_hset_self (y := .vars snZ) i3
      refine aw_ret ⟨trivial, ?_⟩
      simp only [go_sem, reduceIte, Nat.reduceEqDiff, Nat.reduceAdd, Nat.reduceMul, Nat.reduceSub, Nat.reduceLeDiff, Nat.reduceLT, reduceCtorEq, resL, resOf, h24]
      refine ⟨_, rfl, ?_, sub_hset_fresh hb2 i4⟩
      rw [readNF_no (fun z hz hzb => by have := (hcut z hz hzb).2.2; rw [hP] at this; cases this; simp at h)]
      exact no_vle
    have hok : ok = true := by simpa using h
    subst hok
    have hcan : ∀ z, GoodN z → snapB z = b → n8 = z.2.1.1.length ∧ n9 = z.2.2.1.length ∧ L = piecesN z := by
      intro z hz hzb
      obtain ⟨e1, e2, e3⟩ := hcut z hz hzb
      rw [hP] at e3
      cases e3
      exact ⟨e1, e2, rfl⟩
    refine aw_skip (hK9 _ _ ?_)
    refine aw_seq fun K10 hK10 => ?_
    refine aw_sr rfl ?_  -- r13 @store.go:180
    simp only [go_sem, reduceIte, Nat.reduceEqDiff, Nat.reduceAdd, Nat.reduceMul, Nat.reduceSub, Nat.reduceLeDiff, Nat.reduceLT, reduceCtorEq]
    refine aw_range L.length (S := List Pcl × Tag × List Wyt × Tag × Heap) (fun _ _ => [(0, .sl (bytesV b) false .no), (2, .ptr b2 0), (4, .func (.func 181) [] []), (5, .ptr b5 0), (61, .sl (L.map (ePn false)) L.isEmpty .no)]) (fun _ s => s.2.2.2.2)
      (fun i s => (∀ p ∈ s.1, GoodP p) ∧ (∀ w ∈ s.2.2.1, FineW w) ∧ s.1.length + s.2.2.1.length = i ∧ s.2.2.1.length = i - n8 ∧ (i ≤ n8 → s.2.2.2.1 = .full ∧ Rm G s.2.2.2.2 8 s.2.1) ∧ Rm G s.2.2.2.2 3 s.2.2.2.1 ∧
        hget s.2.2.2.2 b5 = some (.vars [.int .i64 t, .sl (s.1.map ePcl) s.1.isEmpty s.2.1, .sl (s.2.2.1.map eWyt) s.2.2.1.isEmpty s.2.2.2.1]) ∧ hget s.2.2.2.2 b2 = some (.vars snZ) ∧ Sub G s.2.2.2.2 ∧
        ∀ z, GoodN z → snapB z = b → s.1 = z.2.1.1.take s.1.length ∧ s.2.2.1 = z.2.2.1.take s.2.2.1.length) ([], .full, [], .full, H0) (by omega) ?_ (fun _ _ h => h)
      ⟨(fun p hp => by cases hp), (fun w hw => by cases hw), rfl, by simp, fun _ => ⟨rfl, Rm.start _ _ _⟩, Rm.start _ _ _, i2, i3, i4, fun z _ _ => ⟨rfl, rfl⟩⟩ rfl (fun _ _ => rfl) ?_ ?_ (by decide)
    · simp only [go_sem, reduceIte, Nat.reduceEqDiff, Nat.reduceAdd, Nat.reduceMul, Nat.reduceSub, Nat.reduceLeDiff, Nat.reduceLT, reduceCtorEq, Int.natCast_zero]
    · intro i ⟨ps, tp, ws, tw, H⟩ hi ⟨j1, j2, j3, j4, j5, j6, j7, j8, j9, j10⟩
      simp only at j1 j2 j3 j4 j5 j6 j7 j8 j9 j10 ⊢
      have hli := hL3 _ (List.getElem_mem hi)
      refine aw_sr rfl ?_  -- r15 @store.go:180
      simp only [go_sem, reduceIte, Nat.reduceEqDiff, Nat.reduceAdd, Nat.reduceMul, Nat.reduceSub, Nat.reduceLeDiff, Nat.reduceLT, reduceCtorEq, getD_map hi, ePn]
      refine ⟨⟨by omega, by omega, wid_ePn _ _⟩, ?_⟩
      refine aw_seq fun K11 hK11 => ?_
      refine aw_sr rfl ?_  -- r16 @store.go:181
      simp only [go_sem, reduceIte, Nat.reduceEqDiff, Nat.reduceAdd, Nat.reduceMul, Nat.reduceSub, Nat.reduceLeDiff, Nat.reduceLT, reduceCtorEq, show Int.toNat 8 = 8 from rfl, getD_b (show 8 < b.length by omega), hn8, wrap_c c8]
      refine ⟨⟨by omega, by omega, wid_bytes _⟩, ?_⟩
      refine aw_if rfl (fun h => ?_) (fun h => ?_)
      · have hlt : i < n8 := by rw [decide_eq_true_eq] at h; omega
        obtain ⟨rfl, hrp⟩ := j5 (by omega)
        have hw0 : ws = [] := List.eq_nil_of_length_eq_zero (by omega)
        subst hw0
        have hpl : ps.length = i := by simpa using j3
        have hcz : ∀ z, GoodN z → snapB z = b → ∃ hp : i < z.2.1.1.length, readPF L[i] = (z.2.1.1[i], 0) := by
          intro z hz hzb
          obtain ⟨e1, e2, e3⟩ := hcan z hz hzb
          subst e3
          exact ⟨by omega, piece_par hz hi (by omega)⟩
        have hfin := readPF_fine L[i]
        have hrok := readPF_ok (b := L[i])
        generalize L[i] = x at hli hcz hfin hrok ⊢
        refine aw_sr rfl ?_  -- r17 @store.go:182
        simp only [go_sem, reduceIte, Nat.reduceEqDiff, Nat.reduceAdd, Nat.reduceMul, Nat.reduceSub, Nat.reduceLeDiff, Nat.reduceLT, reduceCtorEq]
        refine goA_q (q_ReadParcel x false (by show _ ≤ 1048576; omega)) ?_
        generalize readPF x = r at hcz hfin hrok ⊢
        simp only [go_sem, reduceIte, Nat.reduceEqDiff, Nat.reduceAdd, Nat.reduceMul, Nat.reduceSub, Nat.reduceLeDiff, Nat.reduceLT, reduceCtorEq]
        intro b12 hb12
        have n52 : ¬ b5 = b12 := ne_fresh j7 hb12
        have n22 : ¬ b2 = b12 := ne_fresh j8 hb12
        refine aw_box1 hb12 fun B3 hs3 h12 => ?_
        replace j7 := hs3 _ _ j7
        replace j8 := hs3 _ _ j8
        replace j9 := sub_trans j9 hs3
        replace hrp := hrp.sub hs3
        refine aw_seq fun K12 hK12 => ?_
        refine aw_sr rfl ?_  -- r18 @store.go:183
        simp only [go_sem, reduceIte, Nat.reduceEqDiff, Nat.reduceAdd, Nat.reduceMul, Nat.reduceSub, Nat.reduceLeDiff, Nat.reduceLT, reduceCtorEq]
        refine aw_if rfl (fun h => ?_) (fun h => ?_)
        · refine aw_sr rfl ?_  -- r19 @store.go:184
          simp only [go_sem, reduceIte, Nat.reduceEqDiff, Nat.reduceAdd, Nat.reduceMul, Nat.reduceSub, Nat.reduceLeDiff, Nat.reduceLT, reduceCtorEq, j8]
          refine goA_q q_ReadNo ?_
          simp only [go_sem, reduceIte, Nat.reduceEqDiff, Nat.reduceAdd, Nat.reduceMul, Nat.reduceSub, Nat.reduceLeDiff, Nat.reduceLT, reduceCtorEq, j8]
          have h24 := hget_hset_self (y := .vars snZ) j8
          refine aw_ret ⟨trivial, ?_⟩
          simp only [go_sem, reduceIte, Nat.reduceEqDiff, Nat.reduceAdd, Nat.reduceMul, Nat.reduceSub, Nat.reduceLeDiff, Nat.reduceLT, reduceCtorEq, resL, resOf, h24]
          refine ⟨_, rfl, ?_, sub_hset_fresh hb2 j9⟩
          rw [readNF_no (fun z hz hzb => by obtain ⟨_, e⟩ := hcz z hz hzb; rw [e] at h; simp at h)]
          exact no_vle
        have hr0 : r.2 = 0 := by simpa using h
        have hgp := (hrok hr0).1
        refine aw_skip (hK12 _ _ ?_)
        refine aw_sr rfl ?_  -- r20 @store.go:186
        simp only [go_sem, reduceIte, Nat.reduceEqDiff, Nat.reduceAdd, Nat.reduceMul, Nat.reduceSub, Nat.reduceLeDiff, Nat.reduceLT, reduceCtorEq, j7, h12]
        refine goP_rm hrp j9 ?_ fun t1 H1 hr1 hs1 hg1 => ?_
        · exact ⟨rfl, rfl, by decide, wid_ePcl _, wid_one rfl, sca_one rfl, by simp; omega, by simp; omega⟩
        have u5 := hg1.vars j7
        have u2 := hg1.vars j8
        simp only [go_sem, reduceIte, Nat.reduceEqDiff, Nat.reduceAdd, Nat.reduceMul, Nat.reduceSub, Nat.reduceLeDiff, Nat.reduceLT, reduceCtorEq, u5, Bool.and_false]
        have hsn : ps.map ePcl ++ [cPcl r.1] = (ps ++ [r.1]).map ePcl := by rw [List.map_append, List.map_cons, List.map_nil]; rfl
        rw [hsn]
        generalize hH3 : hset H1 b5 _ = H3
        obtain ⟨v5, hk, _, hRm, hS⟩ := st_facts hH3 u5 (fun _ _ e => by cases e)
        refine aw_exit ?_  -- 3
        refine ⟨(ps ++ [r.1], t1, [], .full, H3), ⟨?_, j2, by simp [hpl], by simp; omega, fun _ => ⟨rfl, hRm _ _ _ hr1⟩, Rm.start _ _ _, ?_, hk _ _ n25 u2, hS _ hG5 hs1, fun z hz hzb => ?_⟩, ?_, sub_rfl⟩
        · intro p hp
          rcases List.mem_append.1 hp with hp | hp
          · exact j1 p hp
          · rw [List.mem_singleton.1 hp]; exact hgp
        · rw [isEmpty_snoc]; exact v5
        · obtain ⟨hp, e⟩ := hcz z hz hzb
          obtain ⟨q1, q2⟩ := j10 z hz hzb
          refine ⟨?_, rfl⟩
          rw [hpl] at q1
          show ps ++ [r.1] = z.2.1.1.take (ps ++ [r.1]).length
          rw [List.length_append, List.length_singleton, hpl, List.take_succ_eq_append_getElem hp, ← q1, e]
        · simp only [go_sem, reduceIte, Nat.reduceEqDiff, Nat.reduceAdd, Nat.reduceMul, Nat.reduceSub, Nat.reduceLeDiff, Nat.reduceLT, reduceCtorEq]
      · have hge : ¬ i < n8 := by rw [decide_eq_false_iff_not] at h; omega
        refine aw_skip (hK11 _ _ ?_)
        have hcz : ∀ z, GoodN z → snapB z = b → ∃ hp : i - n8 < z.2.2.1.length, wayF L[i] = some z.2.2.1[i - n8] ∧ (scanL (L[i].drop 2)).2 = L[i].length - 2 := by
          intro z hz hzb
          obtain ⟨e1, e2, e3⟩ := hcan z hz hzb
          subst e3
          subst e1
          exact ⟨by omega, piece_way hz hi hge (by omega)⟩
        have hwf : ∀ w, wayF L[i] = some w → FineW w := fun w hw => wayF_fine (by show _ ≤ 1048576; omega) hw
        generalize hLx : L[i] = x at hli hcz hwf ⊢
        refine aw_sr rfl ?_  -- r21 @store.go:189
        simp only [go_sem, reduceIte, Nat.reduceEqDiff, Nat.reduceAdd, Nat.reduceMul, Nat.reduceSub, Nat.reduceLeDiff, Nat.reduceLT, reduceCtorEq]
        refine goA_q (q_readWay x (by show _ ≤ 1048576; omega)) ?_
        unfold wayV
        cases hW : wayF x with
        | none =>
          simp only [go_sem, reduceIte, Nat.reduceEqDiff, Nat.reduceAdd, Nat.reduceMul, Nat.reduceSub, Nat.reduceLeDiff, Nat.reduceLT, reduceCtorEq]
          intro b14 hb14
          have n52 : ¬ b5 = b14 := ne_fresh j7 hb14
          have n22 : ¬ b2 = b14 := ne_fresh j8 hb14
          refine aw_box1 hb14 fun B3 hs3 h14 => ?_
          replace j8 := hs3 _ _ j8
          replace j9 := sub_trans j9 hs3
          refine aw_seq fun K13 hK13 => ?_
          refine aw_sr rfl ?_  -- r22 @store.go:190
          simp only [go_sem, reduceIte, Nat.reduceEqDiff, Nat.reduceAdd, Nat.reduceMul, Nat.reduceSub, Nat.reduceLeDiff, Nat.reduceLT, reduceCtorEq]
          refine aw_if rfl (fun h => ?_) (fun h => by simp at h)
          refine aw_sr rfl ?_  -- r23 @store.go:191
          simp only [go_sem, reduceIte, Nat.reduceEqDiff, Nat.reduceAdd, Nat.reduceMul, Nat.reduceSub, Nat.reduceLeDiff, Nat.reduceLT, reduceCtorEq, j8]
          refine goA_q q_ReadNo ?_
          simp only [go_sem, reduceIte, Nat.reduceEqDiff, Nat.reduceAdd, Nat.reduceMul, Nat.reduceSub, Nat.reduceLeDiff, Nat.reduceLT, reduceCtorEq, j8]
          have h24 := hget_hset_self (y := .vars snZ) j8
          refine aw_ret ⟨trivial, ?_⟩
          simp only [go_sem, reduceIte, Nat.reduceEqDiff, Nat.reduceAdd, Nat.reduceMul, Nat.reduceSub, Nat.reduceLeDiff, Nat.reduceLT, reduceCtorEq, resL, resOf, h24]
          refine ⟨_, rfl, ?_, sub_hset_fresh hb2 j9⟩
          rw [readNF_no (fun z hz hzb => by obtain ⟨_, e, _⟩ := hcz z hz hzb; rw [hW] at e; cases e)]
          exact no_vle
        | some w =>
          have hfw := hwf w hW
          simp only [go_sem, reduceIte, Nat.reduceEqDiff, Nat.reduceAdd, Nat.reduceMul, Nat.reduceSub, Nat.reduceLeDiff, Nat.reduceLT, reduceCtorEq]
          intro b14 hb14
          have n52 : ¬ b5 = b14 := ne_fresh j7 hb14
          have n22 : ¬ b2 = b14 := ne_fresh j8 hb14
          refine aw_box1 hb14 fun B3 hs3 h14 => ?_
          replace j7 := hs3 _ _ j7
          replace j8 := hs3 _ _ j8
          replace j9 := sub_trans j9 hs3
          replace j6 := j6.sub hs3
          refine aw_seq fun K13 hK13 => ?_
          refine aw_sr rfl ?_  -- r22 @store.go:190
          simp only [go_sem, reduceIte, Nat.reduceEqDiff, Nat.reduceAdd, Nat.reduceMul, Nat.reduceSub, Nat.reduceLeDiff, Nat.reduceLT, reduceCtorEq]
          refine aw_if rfl (fun h => ?_) (fun h => ?_)
          · refine aw_sr rfl ?_  -- r23 @store.go:191
            simp only [go_sem, reduceIte, Nat.reduceEqDiff, Nat.reduceAdd, Nat.reduceMul, Nat.reduceSub, Nat.reduceLeDiff, Nat.reduceLT, reduceCtorEq, j8]
            refine goA_q q_ReadNo ?_
            simp only [go_sem, reduceIte, Nat.reduceEqDiff, Nat.reduceAdd, Nat.reduceMul, Nat.reduceSub, Nat.reduceLeDiff, Nat.reduceLT, reduceCtorEq, j8]
            have h24 := hget_hset_self (y := .vars snZ) j8
            refine aw_ret ⟨trivial, ?_⟩
            simp only [go_sem, reduceIte, Nat.reduceEqDiff, Nat.reduceAdd, Nat.reduceMul, Nat.reduceSub, Nat.reduceLeDiff, Nat.reduceLT, reduceCtorEq, resL, resOf, h24]
            refine ⟨_, rfl, ?_, sub_hset_fresh hb2 j9⟩
            rw [readNF_no (fun z hz hzb => by obtain ⟨_, _, e⟩ := hcz z hz hzb; rw [e] at h; simp at h)]
            exact no_vle
          refine aw_skip (hK13 _ _ ?_)
          refine aw_rg rfl ?_  -- r24 @store.go:193
          simp only [go_sem, reduceIte, Nat.reduceEqDiff, Nat.reduceAdd, Nat.reduceMul, Nat.reduceSub, Nat.reduceLeDiff, Nat.reduceLT, reduceCtorEq, j7, h14]
          refine goP_rm j6 j9 ?_ fun t1 H1 hr1 hs1 hg1 => ?_
          · exact ⟨rfl, rfl, by decide, wid_eWyt _, wid_one rfl, sca_one rfl, by simp; omega, by simp; omega⟩
          have u5 := hg1.vars j7
          have u2 := hg1.vars j8
          simp only [go_sem, reduceIte, Nat.reduceEqDiff, Nat.reduceAdd, Nat.reduceMul, Nat.reduceSub, Nat.reduceLeDiff, Nat.reduceLT, reduceCtorEq, u5, Bool.and_false]
          have hsn : ws.map eWyt ++ [cWyt w] = (ws ++ [w]).map eWyt := by rw [List.map_append, List.map_cons, List.map_nil]; rfl
          rw [hsn]
          generalize hH3 : hset H1 b5 _ = H3
          obtain ⟨v5, hk, _, hRm, hS⟩ := st_facts hH3 u5 (fun _ _ e => by cases e)
          refine ⟨(ps, tp, ws ++ [w], t1, H3), ⟨j1, ?_, by show ps.length + (ws ++ [w]).length = i + 1; rw [List.length_append, List.length_singleton]; omega, by show (ws ++ [w]).length = _; rw [List.length_append, List.length_singleton]; omega, fun e => by omega, hRm _ _ _ hr1, ?_, hk _ _ n25 u2, hS _ hG5 hs1, fun z hz hzb => ?_⟩, ?_, sub_rfl⟩
          · intro p hp
            rcases List.mem_append.1 hp with hp | hp
            · exact j2 p hp
            · rw [List.mem_singleton.1 hp]; exact hfw
          · rw [isEmpty_snoc]; exact v5
          · obtain ⟨hp, e, _⟩ := hcz z hz hzb
            obtain ⟨q1, q2⟩ := j10 z hz hzb
            refine ⟨q1, ?_⟩
            rw [hW] at e
            have e := Option.some.inj e
            rw [j4] at q2
            show ws ++ [w] = z.2.2.1.take (ws ++ [w]).length
            rw [List.length_append, List.length_singleton, j4, List.take_succ_eq_append_getElem hp, ← q2, e]
          · simp only [go_sem, reduceIte, Nat.reduceEqDiff, Nat.reduceAdd, Nat.reduceMul, Nat.reduceSub, Nat.reduceLeDiff, Nat.reduceLT, reduceCtorEq]
    intro ⟨ps, tp, ws, tw, H⟩ ⟨j1, j2, j3, j4, j5, j6, j7, j8, j9, j10⟩
    simp only at j1 j2 j3 j4 j5 j6 j7 j8 j9 j10 ⊢
    refine hK10 _ _ ?_
    have hv : FineN (t, (ps, ps.isEmpty), (ws, ws.isEmpty)) := ⟨i1, ⟨j1, by show ps.length ≤ _; omega, rfl⟩, j2, by show ws.length ≤ _; omega, rfl⟩
    have hcanz : ∀ z, GoodN z → snapB z = b → (t, (ps, ps.isEmpty), (ws, ws.isEmpty)) = z := by
      intro z hz hzb
      obtain ⟨q1, q2⟩ := j10 z hz hzb
      obtain ⟨e1, e2, _⟩ := hcan z hz hzb
      have q0 := i5 z hz hzb
      rw [Nat.sub_self, Int.pow_zero, Int.ediv_one] at q0
      have l1 : ps.length = z.2.1.1.length := by omega
      have l2 : ws.length = z.2.2.1.length := by omega
      rw [l1, List.take_length] at q1
      rw [l2, List.take_length] at q2
      obtain ⟨zt, ⟨zp, zpn⟩, zw, zwn⟩ := z
      have n1 := hz.1.2.1.2.2
      have n2 := hz.1.2.2.2.2
      simp only at q0 q1 q2 n1 n2
      rw [n1, n2, q0, q1, q2]
    refine AW.hle (ds := cSnp (t, (ps, ps.isEmpty), (ws, ws.isEmpty))) j7 (by repeat (first | exact .nil | refine .cons (Vle.refl _) ?_ | refine .cons Vle.untag ?_ | refine .cons (Vle.aggL ?_) ?_ | refine .cons (Vle.slE ?_) ?_)) ?_
    generalize hH8 : hset H b5 _ = H8
    obtain ⟨h5, hk, _, _, hS⟩ := st_facts hH8 j7 (fun _ _ e => by cases e)
    have h27 := hk _ _ n25 j8
    have hsG := hS _ hG5 j9
    clear hS hk hH8
    generalize hvv : ((t, (ps, ps.isEmpty), (ws, ws.isEmpty)) : Snp) = v at hv hcanz h5
    refine aw_seq fun K14 hK14 => ?_
    refine aw_sr rfl ?_  -- r26 @store.go:195
    simp only [go_sem, reduceIte, Nat.reduceEqDiff, Nat.reduceAdd, Nat.reduceMul, Nat.reduceSub, Nat.reduceLeDiff, Nat.reduceLT, reduceCtorEq, h5]
    refine goA_q (q_SBytes v hv.ok) ?_
    simp only [go_sem, reduceIte, Nat.reduceEqDiff, Nat.reduceAdd, Nat.reduceMul, Nat.reduceSub, Nat.reduceLeDiff, Nat.reduceLT, reduceCtorEq]
    refine aw_sr rfl ?_  -- r27 @store.go:195
    simp only [go_sem, reduceIte, Nat.reduceEqDiff, Nat.reduceAdd, Nat.reduceMul, Nat.reduceSub, Nat.reduceLeDiff, Nat.reduceLT, reduceCtorEq]
    refine goH_q (fun hg => q_bytesEqual (snapR v).1.1 b (snapR v).1.2 false .no .no) ?_
    simp only [go_sem, reduceIte, Nat.reduceEqDiff, Nat.reduceAdd, Nat.reduceMul, Nat.reduceSub, Nat.reduceLeDiff, Nat.reduceLT, reduceCtorEq]
    refine aw_if rfl (fun h => ?_) (fun h => ?_)
    · refine aw_sr rfl ?_  -- r28 @store.go:196
      simp only [go_sem, reduceIte, Nat.reduceEqDiff, Nat.reduceAdd, Nat.reduceMul, Nat.reduceSub, Nat.reduceLeDiff, Nat.reduceLT, reduceCtorEq, h27]
      refine goA_q q_ReadNo ?_
      simp only [go_sem, reduceIte, Nat.reduceEqDiff, Nat.reduceAdd, Nat.reduceMul, Nat.reduceSub, Nat.reduceLeDiff, Nat.reduceLT, reduceCtorEq, h27]
      have h24 := hget_hset_self (y := .vars snZ) h27
      refine aw_ret ⟨trivial, ?_⟩
      simp only [go_sem, reduceIte, Nat.reduceEqDiff, Nat.reduceAdd, Nat.reduceMul, Nat.reduceSub, Nat.reduceLeDiff, Nat.reduceLT, reduceCtorEq, resL, resOf, h24]
      refine ⟨_, rfl, ?_, sub_hset_fresh hb2 hsG⟩
      rw [readNF_no (fun z hz hzb => by
        have e := hcanz z hz hzb
        subst e
        rw [snapR_good hz] at h
        simp [hzb] at h)]
      exact no_vle
    refine aw_skip (hK14 _ _ ?_)
    refine aw_sr rfl ?_  -- r29 @store.go:198
    simp only [go_sem, reduceIte, Nat.reduceEqDiff, Nat.reduceAdd, Nat.reduceMul, Nat.reduceSub, Nat.reduceLeDiff, Nat.reduceLT, reduceCtorEq, h27, h5]
    have h24 := hget_hset_self (y := .vars (cSnp v)) h27
    refine aw_ret ⟨trivial, ?_⟩
    simp only [go_sem, reduceIte, Nat.reduceEqDiff, Nat.reduceAdd, Nat.reduceMul, Nat.reduceSub, Nat.reduceLeDiff, Nat.reduceLT, reduceCtorEq, resL, resOf, h24]
    refine ⟨_, rfl, ?_, sub_hset_fresh hb2 hsG⟩
    have hd : (snapR v).2 = 0 ∧ (snapR v).1.1 = b := by
      by_cases g3 : (snapR v).2 = 0 <;> by_cases g4 : (snapR v).1.1 = b <;> simp [g3, g4] at h ⊢
    obtain ⟨o1, o2, o3⟩ := snapR_ok hd.1 hd.2
    rw [readNF_yes (v := v) ⟨hv, o1, o2⟩ o3 hcanz]
    exact Vle.refl _
end Go.Proofs.Ytlgfffngojlffaa

/- The parts that bytes are, the reference's. No conditions. -/
set_option linter.unusedSimpArgs false
set_option linter.unusedVariables false
namespace Go.Proofs.Ytlgfffngojlffaa
open Go.Proofs.YtlgfffngojlffaaV
set_option maxHeartbeats 400000
set_option maxRecDepth 100000
def longsV : Option (List (List UInt8)) → V
  | none => .tup [.sl [] true .no, .bool false]
  | some l => .tup [.sl (l.map eStr) l.isEmpty .no, .bool true]
theorem wid_eStr (xs : List (List UInt8)) : wid 1 (xs.map eStr) := wid_map (g := eStr) (fun _ => rfl) _
theorem n4_mul (b : List UInt8) : IntKind.i64.wrap (IntKind.i64.wrap (IntKind.i64.wrap (IntKind.i64.wrap (IntKind.i64.wrap (IntKind.i64.wrap (((b.getD 0 0).toNat : Int) * 256) + ((b.getD 1 0).toNat : Int)) * 256) + ((b.getD 2 0).toNat : Int)) * 256) + ((b.getD 3 0).toNat : Int)) = ((n4 b : Nat) : Int) := by
  have h0 := (b.getD 0 0).toNat_lt
  have h1 := (b.getD 1 0).toNat_lt
  have h2 := (b.getD 2 0).toNat_lt
  have h3 := (b.getD 3 0).toNat_lt
  unfold n4
  generalize (b.getD 0 0).toNat = x at *
  generalize (b.getD 1 0).toNat = y at *
  generalize (b.getD 2 0).toNat = z at *
  generalize (b.getD 3 0).toNat = w at *
  rw [wrap64 (n := (x : Int) * 256) (by omega) (by omega), wrap64 (n := (x : Int) * 256 + y) (by omega) (by omega), wrap64 (n := ((x : Int) * 256 + y) * 256) (by omega) (by omega), wrap64 (n := ((x : Int) * 256 + y) * 256 + z) (by omega) (by omega), wrap64 (n := (((x : Int) * 256 + y) * 256 + z) * 256) (by omega) (by omega), wrap64 (by omega) (by omega)]
  omega
theorem q_longs (b : List UInt8) (nl : Bool) (hb : b.length ≤ bulk) : Quiet Try.prog 186 [.sl (bytesV b) nl .no] (longsV (splitL b)) := by
  have hbl : b.length ≤ 1048576 := hb
  refine Quiet.weak fun G => ?_
  refine acall_body (rs := [.tmp 2, .tmp 3]) Try.func186 rfl rfl Try.ntmps186 (by kernel_rfl) (Nat.le_of_ble_eq_true rfl) ?_
  refine aw_sr rfl ?_  -- r0 @keep.go:324
  simp only [go_sem, reduceIte, Nat.reduceEqDiff, Nat.reduceAdd, Nat.reduceMul, Nat.reduceSub, Nat.reduceLeDiff, Nat.reduceLT, reduceCtorEq]
  refine aw_sr rfl ?_  -- r1 @keep.go:325
  simp only [go_sem, reduceIte, Nat.reduceEqDiff, Nat.reduceAdd, Nat.reduceMul, Nat.reduceSub, Nat.reduceLeDiff, Nat.reduceLT, reduceCtorEq]
  refine aw_seq fun K15 hK15 => ?_
  refine aw_block ?_  -- 0
  refine aw_lph (S := {s : List UInt8 × List (List UInt8) × Tag × Heap // splitL b = (splitL s.1).map (fun q => s.2.1 ++ q) ∧ s.1.length + s.2.1.length ≤ b.length ∧ Rm G s.2.2.2 1 s.2.2.1 ∧ Sub G s.2.2.2})
    (fun s => [(0, .sl (bytesV s.1.1) nl .no), (4, .sl (s.1.2.1.map eStr) s.1.2.1.isEmpty s.1.2.2.1)]) (fun s => s.1.2.2.2) (fun s => s.1.1.length) ⟨(b, [], .full, G), by cases splitL b <;> simp, by simp, Rm.start _ _ _, sub_rfl⟩ ?_ (fun _ _ h => h) ?_
  · simp only [go_sem, reduceIte, Nat.reduceEqDiff, Nat.reduceAdd, Nat.reduceMul, Nat.reduceSub, Nat.reduceLeDiff, Nat.reduceLT, reduceCtorEq]
  intro ⟨⟨rs, out, t, H⟩, i1, i2, i4, i5⟩
  simp only at i1 i2 i4 i5 ⊢
  refine aw_seq fun K16 hK16 => ?_
  refine aw_sr rfl ?_  -- r2 @keep.go:326
  simp only [go_sem, reduceIte, Nat.reduceEqDiff, Nat.reduceAdd, Nat.reduceMul, Nat.reduceSub, Nat.reduceLeDiff, Nat.reduceLT, reduceCtorEq]
  refine aw_if rfl (fun h => ?_) (fun h => ?_)
  · have hne : ¬ rs = [] := by intro e; subst e; simp at h
    have hu : splitL rs = if h1 : rs.length < 4 then none else if rs.length - 4 < n4 rs then none else (splitL (rs.drop (4 + n4 rs))).map fun l => (rs.drop 4).take (n4 rs) :: l := by rw [splitL, dif_neg hne]
    rw [hu] at i1
    refine aw_skip (hK16 _ _ ?_)
    refine aw_block ?_  -- 1
    refine aw_seq fun K17 hK17 => ?_
    refine aw_sr rfl ?_  -- r3 @keep.go:327
    simp only [go_sem, reduceIte, Nat.reduceEqDiff, Nat.reduceAdd, Nat.reduceMul, Nat.reduceSub, Nat.reduceLeDiff, Nat.reduceLT, reduceCtorEq]
    refine aw_if rfl (fun h => ?_) (fun h => ?_)
    · rw [dif_pos (by rw [decide_eq_true_eq] at h; omega)] at i1
      refine aw_sr rfl ?_  -- r4 @keep.go:328
      simp only [go_sem, reduceIte, Nat.reduceEqDiff, Nat.reduceAdd, Nat.reduceMul, Nat.reduceSub, Nat.reduceLeDiff, Nat.reduceLT, reduceCtorEq]
      refine aw_ret ⟨trivial, _, rfl, ?_, i5⟩
      rw [i1]
      exact Vle.tupL (.cons Vle.untag (.cons (Vle.refl _) .nil))
    have h4 : 4 ≤ rs.length := by rw [decide_eq_false_iff_not] at h; omega
    rw [dif_neg (by omega)] at i1
    refine aw_skip (hK17 _ _ ?_)
    have h0 := (rs.getD 0 0).toNat_lt
    have h1 := (rs.getD 1 0).toNat_lt
    have h2 := (rs.getD 2 0).toNat_lt
    have h3 := (rs.getD 3 0).toNat_lt
    have hn4 := n4_lt rs
    refine aw_srd [(0,true),(1,true),(2,true),(3,true),(4,true),(5,true),(6,true),(7,true),(8,true),(9,true),(10,true),(11,true),(12,true),(13,true),(14,true),(15,true),(16,true),(17,true),(18,true),(19,true),(20,true),(21,true),(22,true)] mixed rfl (by kernel_rfl) ?_  -- r5
    simp only [go_sem, reduceIte, Nat.reduceEqDiff, Nat.reduceAdd, Nat.reduceMul, Nat.reduceSub, Nat.reduceLeDiff, Nat.reduceLT, reduceCtorEq, Int.toNat_zero, toNat1, toNat2, show Int.toNat 3 = 3 from rfl, getD_b (show 0 < rs.length by omega), getD_b (show 1 < rs.length by omega), getD_b (show 2 < rs.length by omega), getD_b (show 3 < rs.length by omega), wrap_c h0, wrap_c h1, wrap_c h2, wrap_c h3, n4_mul]
    refine ⟨⟨by omega, by omega, wid_bytes _⟩, ⟨by omega, by omega, wid_bytes _⟩, ⟨by omega, by omega, wid_bytes _⟩, ⟨by omega, by omega, wid_bytes _⟩, ?_⟩
    refine aw_seq fun K18 hK18 => ?_
    refine aw_sr rfl ?_  -- r6 @keep.go:331
    simp only [go_sem, reduceIte, Nat.reduceEqDiff, Nat.reduceAdd, Nat.reduceMul, Nat.reduceSub, Nat.reduceLeDiff, Nat.reduceLT, reduceCtorEq, show IntKind.i64.wrap ((rs.length : Int) - 4) = ((rs.length - 4 : Nat) : Int) by rw [wrap64 (by omega) (by omega)]; omega]
    refine aw_if rfl (fun h => ?_) (fun h => ?_)
    · rw [if_pos (by rw [decide_eq_true_eq] at h; omega)] at i1
      refine aw_sr rfl ?_  -- r7 @keep.go:332
      simp only [go_sem, reduceIte, Nat.reduceEqDiff, Nat.reduceAdd, Nat.reduceMul, Nat.reduceSub, Nat.reduceLeDiff, Nat.reduceLT, reduceCtorEq]
      refine aw_ret ⟨trivial, _, rfl, ?_, i5⟩
      rw [i1]
      exact Vle.tupL (.cons Vle.untag (.cons (Vle.refl _) .nil))
    have hfit : ¬ rs.length - 4 < n4 rs := by rw [decide_eq_false_iff_not] at h; omega
    rw [if_neg hfit] at i1
    have hw2 : IntKind.i64.wrap (4 + ((n4 rs : Nat) : Int)) = ((4 + n4 rs : Nat) : Int) := by rw [wrap64 (by omega) (by omega)]; omega
    refine aw_skip (hK18 _ _ ?_)
    refine aw_sr rfl ?_  -- r8 @keep.go:334
    simp only [go_sem, reduceIte, Nat.reduceEqDiff, Nat.reduceAdd, Nat.reduceMul, Nat.reduceSub, Nat.reduceLeDiff, Nat.reduceLT, reduceCtorEq, hw2, show Int.toNat 4 = 4 from rfl, take_bytesV, drop_bytesV, sliceTag_no, unb_bytesV]
    refine ⟨⟨⟨by omega, by omega, by omega⟩, wid_bytes _⟩, ?_⟩
    refine goP_rm i4 i5 ?_ fun t1 H1 hr1 hs1 hg1 => ?_
    · exact ⟨rfl, rfl, by decide, wid_eStr _, wid_one rfl, sca_one rfl, by simp; omega, by simp; omega⟩
    simp only [go_sem, reduceIte, Nat.reduceEqDiff, Nat.reduceAdd, Nat.reduceMul, Nat.reduceSub, Nat.reduceLeDiff, Nat.reduceLT, reduceCtorEq]
    refine aw_rg rfl ?_  -- r9 @keep.go:335
    simp only [go_sem, reduceIte, Nat.reduceEqDiff, Nat.reduceAdd, Nat.reduceMul, Nat.reduceSub, Nat.reduceLeDiff, Nat.reduceLT, reduceCtorEq, hw2, List.take_length, drop_bytesV, sliceTag_no, show ((List.length rs : Nat) : Int).toNat = rs.length from rfl]
    refine ⟨⟨⟨by omega, by omega⟩, wid_bytes _⟩, ?_⟩
    refine ⟨⟨(rs.drop (4 + n4 rs), out ++ [(rs.drop 4).take (n4 rs)], t1, H1), ?_, by show (rs.drop _).length + (out ++ [_]).length ≤ _; rw [List.length_drop, List.length_append, List.length_singleton]; omega, hr1, hs1⟩, by show (rs.drop _).length < _; rw [List.length_drop]; omega, ?_, sub_rfl⟩
    · rw [i1]
      cases splitL (rs.drop (4 + n4 rs)) <;> simp
    · simp only [go_sem, reduceIte, Nat.reduceEqDiff, Nat.reduceAdd, Nat.reduceMul, Nat.reduceSub, Nat.reduceLeDiff, Nat.reduceLT, reduceCtorEq]
      rw [isEmpty_snoc, List.map_append, List.map_cons, List.map_nil, eStr, List.drop_take, Nat.add_sub_cancel_left]
      try simp
  · have he : rs = [] := by
      cases rs with
      | nil => rfl
      | cons a l => rw [decide_eq_false_iff_not, List.length_cons] at h; omega
    subst he
    have hu : splitL [] = some [] := by rw [splitL, dif_pos rfl]
    rw [hu] at i1
    refine aw_exit ?_  -- 0
    refine hK15 _ _ ?_
    refine aw_sr rfl ?_  -- r10 @keep.go:337
    simp only [go_sem, reduceIte, Nat.reduceEqDiff, Nat.reduceAdd, Nat.reduceMul, Nat.reduceSub, Nat.reduceLeDiff, Nat.reduceLT, reduceCtorEq]
    refine aw_ret ⟨trivial, _, rfl, ?_, i5⟩
    rw [i1]
    simp only [Option.map_some, List.append_nil, longsV]
    exact Vle.tupL (.cons Vle.untag (.cons (Vle.refl _) .nil))
end Go.Proofs.Ytlgfffngojlffaa

/- SnapOf: as Read; the reference's. No conditions. -/
set_option linter.unusedSimpArgs false
set_option linter.unusedVariables false
namespace Go.Proofs.Ytlgfffngojlffaa
open Go.Proofs.YtlgfffngojlffaaV
set_option maxHeartbeats 400000
set_option maxRecDepth 100000
theorem time_mul {t c : Int} (h0 : 0 ≤ t) (hc : 0 ≤ c ∧ c ≤ 255) (h : t * 256 + c ≤ 9223372036854775807) : IntKind.i64.wrap (IntKind.i64.wrap (t * 256) + c) = t * 256 + c := by
  rw [wrap64 (n := t * 256) (by omega) (by omega), wrap64 (by omega) (by omega)]
theorem q_SnapOf (b : List UInt8) (nl : Bool) (hb : b.length ≤ bulk) : Quiet Try.prog 81 [.sl (bytesV b) nl .no] (pairN (readNF b)) := by
  have hbl : b.length ≤ 1048576 := hb
  refine Quiet.weak fun G => ?_
  refine acall_body (rs := [.cell 2 156, .tmp 3]) Try.func81 rfl rfl Try.ntmps81 (by kernel_rfl) (Nat.le_of_ble_eq_true rfl) ?_
  refine aw_sr rfl ?_  -- r0 @keep.go:341
  simp only [go_sem, reduceIte, Nat.reduceEqDiff, Nat.reduceAdd, Nat.reduceMul, Nat.reduceSub, Nat.reduceLeDiff, Nat.reduceLT, reduceCtorEq]
  intro b2 hb2
  refine aw_box1 hb2 fun B1 hs1 h2 => ?_
  have hsB := hs1
  refine aw_sr rfl ?_  -- r1 @keep.go:342
  simp only [go_sem, reduceIte, Nat.reduceEqDiff, Nat.reduceAdd, Nat.reduceMul, Nat.reduceSub, Nat.reduceLeDiff, Nat.reduceLT, reduceCtorEq]
  intro b4 hb4
  have n24 : ¬ b2 = b4 := ne_fresh h2 hb4
  have hG4 : hget G b4 = none := none_sub hs1 hb4
  refine aw_box1 hb4 fun B2 hs2 h4 => ?_
  replace h2 := hs2 _ _ h2
  replace hsB := sub_trans hsB hs2
  refine aw_seq fun K19 hK19 => ?_
  refine aw_sr rfl ?_  -- r2 @keep.go:343
  simp only [go_sem, reduceIte, Nat.reduceEqDiff, Nat.reduceAdd, Nat.reduceMul, Nat.reduceSub, Nat.reduceLeDiff, Nat.reduceLT, reduceCtorEq]
  refine aw_if rfl (fun h => ?_) (fun h => ?_)
  · refine aw_sr rfl ?_  -- r3 @keep.go:344
    simp only [go_sem, reduceIte, Nat.reduceEqDiff, Nat.reduceAdd, Nat.reduceMul, Nat.reduceSub, Nat.reduceLeDiff, Nat.reduceLT, reduceCtorEq, h2, h4]
    have h24 := hget_hset_self (y := .vars snZ) h2
    refine aw_ret ⟨trivial, ?_⟩
    simp only [go_sem, reduceIte, Nat.reduceEqDiff, Nat.reduceAdd, Nat.reduceMul, Nat.reduceSub, Nat.reduceLeDiff, Nat.reduceLT, reduceCtorEq, resL, resOf, h24]
    refine ⟨_, rfl, ?_, sub_hset_fresh hb2 hsB⟩
    rw [readNF_no (fun z hz hzb => by have := (snap_cut hz hzb hb).1; rw [decide_eq_true_eq] at h; omega)]
    exact no_vle
  have h10 : 10 ≤ b.length := by rw [decide_eq_false_iff_not] at h; omega
  clear h
  refine aw_skip (hK19 _ _ ?_)
  refine aw_sr rfl ?_  -- r4 @keep.go:346
  simp only [go_sem, reduceIte, Nat.reduceEqDiff, Nat.reduceAdd, Nat.reduceMul, Nat.reduceSub, Nat.reduceLeDiff, Nat.reduceLT, reduceCtorEq, show Int.toNat 10 = 10 from rfl, take_bytesV, drop_bytesV, List.take_length, sliceTag_no, show ((List.length b : Nat) : Int).toNat = b.length from rfl]
  refine ⟨⟨⟨by omega, by omega⟩, wid_bytes _⟩, ?_⟩
  refine goA_q (q_longs (b.drop 10) nl (by show _ ≤ 1048576; rw [List.length_drop]; omega)) ?_
  have c8 := (b.getD 8 0).toNat_lt
  have c9 := (b.getD 9 0).toNat_lt
  have hcut : ∀ z, GoodN z → snapB z = b → (b.getD 8 0).toNat = z.2.1.1.length ∧ (b.getD 9 0).toNat = z.2.2.1.length ∧ splitL (b.drop 10) = some (piecesN z) := by
    intro z hz hzb
    obtain ⟨_, _, e1, e2, e3, _⟩ := snap_cut hz hzb hb
    have e1 : (b.getD 8 0).toNat = z.2.1.1.length := by unfold at0 at e1; omega
    have e2 : (b.getD 9 0).toNat = z.2.2.1.length := by unfold at0 at e2; omega
    exact ⟨e1, e2, e3⟩
  have hpl := splitL_len _ (b.drop 10) (Nat.le_refl _)
  rw [List.length_drop] at hpl
  have hw : IntKind.i64.wrap ((((b.getD 8 0).toNat : Nat) : Int) + (((b.getD 9 0).toNat : Nat) : Int)) = (((b.getD 8 0).toNat + (b.getD 9 0).toNat : Nat) : Int) := by rw [wrap64 (by omega) (by omega)]; omega
  cases hP : splitL (b.drop 10) with
  | none =>
    simp only [go_sem, reduceIte, Nat.reduceEqDiff, Nat.reduceAdd, Nat.reduceMul, Nat.reduceSub, Nat.reduceLeDiff, Nat.reduceLT, reduceCtorEq, longsV]
    refine aw_seq fun K20 hK20 => ?_
    refine aw_srd [(0,true),(1,true),(2,true),(3,true),(4,true),(5,true),(6,true),(7,true),(8,true),(9,true),(10,true),(11,true),(12,true),(13,true),(14,true),(15,true)] mixed rfl (by kernel_rfl) ?_  -- r5 @keep.go:347
    simp only [go_sem, reduceIte, Nat.reduceEqDiff, Nat.reduceAdd, Nat.reduceMul, Nat.reduceSub, Nat.reduceLeDiff, Nat.reduceLT, reduceCtorEq, show Int.toNat 8 = 8 from rfl, show Int.toNat 9 = 9 from rfl, getD_b (show 8 < b.length by omega), getD_b (show 9 < b.length by omega)]
    refine ⟨fun e => by simp at e, fun e => by simp at e, ?_⟩
    refine aw_if rfl (fun h => ?_) (fun h => by simp at h)
    refine aw_sr rfl ?_  -- r6 @keep.go:348
    simp only [go_sem, reduceIte, Nat.reduceEqDiff, Nat.reduceAdd, Nat.reduceMul, Nat.reduceSub, Nat.reduceLeDiff, Nat.reduceLT, reduceCtorEq, h2, h4]
    have h24 := hget_hset_self (y := .vars snZ) h2
    refine aw_ret ⟨trivial, ?_⟩
    simp only [go_sem, reduceIte, Nat.reduceEqDiff, Nat.reduceAdd, Nat.reduceMul, Nat.reduceSub, Nat.reduceLeDiff, Nat.reduceLT, reduceCtorEq, resL, resOf, h24]
    refine ⟨_, rfl, ?_, sub_hset_fresh hb2 hsB⟩
    rw [readNF_no (fun z hz hzb => by have := (hcut z hz hzb).2.2; rw [hP] at this; cases this)]
    exact no_vle
  | some L =>
    obtain ⟨hL1, hL3⟩ := hpl L hP
    simp only [go_sem, reduceIte, Nat.reduceEqDiff, Nat.reduceAdd, Nat.reduceMul, Nat.reduceSub, Nat.reduceLeDiff, Nat.reduceLT, reduceCtorEq, longsV]
    refine aw_seq fun K20 hK20 => ?_
    refine aw_srd [(0,true),(1,true),(2,true),(3,true),(4,true),(5,true),(6,true),(7,true),(8,true),(9,true),(10,true),(11,true),(12,true),(13,true),(14,true),(15,true)] mixed rfl (by kernel_rfl) ?_  -- r5 @keep.go:347
    simp only [go_sem, reduceIte, Nat.reduceEqDiff, Nat.reduceAdd, Nat.reduceMul, Nat.reduceSub, Nat.reduceLeDiff, Nat.reduceLT, reduceCtorEq, show Int.toNat 8 = 8 from rfl, show Int.toNat 9 = 9 from rfl, getD_b (show 8 < b.length by omega), getD_b (show 9 < b.length by omega), wrap_c c8, wrap_c c9, hw]
    refine ⟨fun _ => ⟨by omega, by omega, wid_bytes _⟩, fun _ => ⟨by omega, by omega, wid_bytes _⟩, ?_⟩
    generalize hn8 : (b.getD 8 0).toNat = n8 at *
    generalize hn9 : (b.getD 9 0).toNat = n9 at *
    refine aw_if rfl (fun h => ?_) (fun h => ?_)
    · refine aw_sr rfl ?_  -- r6 @keep.go:348
      simp only [go_sem, reduceIte, Nat.reduceEqDiff, Nat.reduceAdd, Nat.reduceMul, Nat.reduceSub, Nat.reduceLeDiff, Nat.reduceLT, reduceCtorEq, h2, h4]
      have h24 := hget_hset_self (y := .vars snZ) h2
      refine aw_ret ⟨trivial, ?_⟩
      simp only [go_sem, reduceIte, Nat.reduceEqDiff, Nat.reduceAdd, Nat.reduceMul, Nat.reduceSub, Nat.reduceLeDiff, Nat.reduceLT, reduceCtorEq, resL, resOf, h24]
      refine ⟨_, rfl, ?_, sub_hset_fresh hb2 hsB⟩
      rw [readNF_no (fun z hz hzb => by
        obtain ⟨e1, e2, e3⟩ := hcut z hz hzb
        rw [hP] at e3
        cases e3
        simp only [piecesN, List.length_append, List.length_map] at h
        rw [e1, e2] at h
        simp at h)]
      exact no_vle
    have hLn : L.length = n8 + n9 := by
      simp at h
      omega
    have hcan : ∀ z, GoodN z → snapB z = b → n8 = z.2.1.1.length ∧ n9 = z.2.2.1.length ∧ L = piecesN z := by
      intro z hz hzb
      obtain ⟨e1, e2, e3⟩ := hcut z hz hzb
      rw [hP] at e3
      cases e3
      exact ⟨e1, e2, rfl⟩
    clear h
    refine aw_skip (hK20 _ _ ?_)
    refine aw_sr rfl ?_  -- r7 @keep.go:350
    simp only [go_sem, reduceIte, Nat.reduceEqDiff, Nat.reduceAdd, Nat.reduceMul, Nat.reduceSub, Nat.reduceLeDiff, Nat.reduceLT, reduceCtorEq]
    intro b7 hb7
    have n27 : ¬ b2 = b7 := ne_fresh h2 hb7
    have n47 : ¬ b4 = b7 := ne_fresh h4 hb7
    have hG7 : hget G b7 = none := none_sub hsB hb7
    refine aw_box1 hb7 fun B3 hs3 h7 => ?_
    replace h2 := hs3 _ _ h2
    replace h4 := hs3 _ _ h4
    replace hsB := sub_trans hsB hs3
    refine aw_seq fun K21 hK21 => ?_
    refine aw_sr rfl ?_  -- r8 @keep.go:351
    simp only [go_sem, reduceIte, Nat.reduceEqDiff, Nat.reduceAdd, Nat.reduceMul, Nat.reduceSub, Nat.reduceLeDiff, Nat.reduceLT, reduceCtorEq, show Int.toNat 8 = 8 from rfl, take_bytesV, drop_bytesV, sliceTag_no]
    refine ⟨⟨⟨by omega, by omega⟩, wid_bytes _⟩, ?_⟩
    have hl8 : (b.take 8).length = 8 := by rw [List.length_take]; omega
    rw [hl8]
    refine aw_range 8 (S := Int × Heap) (fun _ _ => [(0, .sl (bytesV b) nl .no), (2, .ptr b2 0), (4, .ptr b4 0), (5, .sl (L.map eStr) L.isEmpty .no), (7, .ptr b7 0), (53, .sl (bytesV (b.take 8)) nl .no)]) (fun _ s => s.2)
      (fun i s => InI s.1 ∧ hget s.2 b7 = some (.vars [.int .i64 s.1, .sl [] true .full, .sl [] true .full]) ∧ hget s.2 b2 = some (.vars snZ) ∧ hget s.2 b4 = some (.vars snZ) ∧ Sub G s.2 ∧ ∀ z, GoodN z → snapB z = b → s.1 = z.1 / 256 ^ (8 - i)) (0, B3) (by decide) ?_ (fun _ _ h => h)
      ⟨⟨by show IntKind.i64.min ≤ 0; decide, by show (0 : Int) ≤ IntKind.i64.max; decide⟩, h7, h2, h4, hsB, fun z hz hzb => ?_⟩ rfl (fun _ _ => rfl) ?_ ?_ (by decide)
    · simp only [go_sem, reduceIte, Nat.reduceEqDiff, Nat.reduceAdd, Nat.reduceMul, Nat.reduceSub, Nat.reduceLeDiff, Nat.reduceLT, reduceCtorEq, Int.natCast_zero]
    · have hc := checkN_good hz.2.1
      have hr := i64_range hz.1.1
      rw [Int.ediv_eq_zero_of_lt hc.2.1 (Int.lt_of_le_of_lt hr.2 (by decide))]
    · intro i ⟨t, H⟩ hi ⟨i1, i2, i3, i6, i4, i5⟩
      simp only at i1 i2 i3 i6 i4 i5 ⊢
      have hg8 : (b.take 8).getD i 0 = b.getD i 0 := by rw [List.getD_eq_getElem?_getD, List.getD_eq_getElem?_getD, List.getElem?_take_of_lt hi]
      have hci := (b.getD i 0).toNat_lt
      refine aw_sr rfl ?_  -- r10 @keep.go:351
      simp only [go_sem, reduceIte, Nat.reduceEqDiff, Nat.reduceAdd, Nat.reduceMul, Nat.reduceSub, Nat.reduceLeDiff, Nat.reduceLT, reduceCtorEq, getD_b (show i < (b.take 8).length by omega), hg8]
      refine ⟨⟨by omega, by omega, wid_bytes _⟩, ?_⟩
      refine aw_rg rfl ?_  -- r11 @keep.go:352
      simp only [go_sem, reduceIte, Nat.reduceEqDiff, Nat.reduceAdd, Nat.reduceMul, Nat.reduceSub, Nat.reduceLeDiff, Nat.reduceLT, reduceCtorEq, i2, wrap_c hci]
      generalize hH3 : hset H b7 _ = H3
      obtain ⟨u5, hk, _, _, hS⟩ := st_facts hH3 i2 (fun _ _ e => by cases e)
      refine ⟨(_, H3), ⟨wrapI_range _, u5, hk _ _ n27 i3, hk _ _ n47 i6, hS _ hG7 i4, fun z hz hzb => ?_⟩, ?_, sub_rfl⟩
      · have hc := checkN_good hz.2.1
        have hr := i64_range hz.1.1
        obtain ⟨e1, e2, e3⟩ := time_step hc.2.1 hr.2 hi (snap_cut hz hzb hb).2.1 t (i5 z hz hzb)
        rw [← e2]
        exact time_mul e1 (at0_range b i) e3
      · simp only [go_sem, reduceIte, Nat.reduceEqDiff, Nat.reduceAdd, Nat.reduceMul, Nat.reduceSub, Nat.reduceLeDiff, Nat.reduceLT, reduceCtorEq]
    intro ⟨t, H0⟩ ⟨i1, i2, i3, i6, i4, i5⟩
    simp only at i1 i2 i3 i6 i4 i5 ⊢
    refine hK21 _ _ ?_
    refine aw_seq fun K22 hK22 => ?_
    refine aw_sr rfl ?_  -- r13 @keep.go:354
    simp only [go_sem, reduceIte, Nat.reduceEqDiff, Nat.reduceAdd, Nat.reduceMul, Nat.reduceSub, Nat.reduceLeDiff, Nat.reduceLT, reduceCtorEq]
    refine aw_range L.length (S := List Pcl × Tag × List Wyt × Tag × Heap) (fun _ _ => [(0, .sl (bytesV b) nl .no), (2, .ptr b2 0), (4, .ptr b4 0), (7, .ptr b7 0), (67, .sl (L.map eStr) L.isEmpty .no)]) (fun _ s => s.2.2.2.2)
      (fun i s => (∀ p ∈ s.1, GoodP p) ∧ (∀ w ∈ s.2.2.1, FineW w) ∧ s.1.length + s.2.2.1.length = i ∧ s.2.2.1.length = i - n8 ∧ (i ≤ n8 → s.2.2.2.1 = .full ∧ Rm G s.2.2.2.2 8 s.2.1) ∧ Rm G s.2.2.2.2 3 s.2.2.2.1 ∧
        hget s.2.2.2.2 b7 = some (.vars [.int .i64 t, .sl (s.1.map ePcl) s.1.isEmpty s.2.1, .sl (s.2.2.1.map eWyt) s.2.2.1.isEmpty s.2.2.2.1]) ∧ hget s.2.2.2.2 b2 = some (.vars snZ) ∧ hget s.2.2.2.2 b4 = some (.vars snZ) ∧ Sub G s.2.2.2.2 ∧
        ∀ z, GoodN z → snapB z = b → s.1 = z.2.1.1.take s.1.length ∧ s.2.2.1 = z.2.2.1.take s.2.2.1.length) ([], .full, [], .full, H0) (by omega) ?_ (fun _ _ h => h)
      ⟨(fun p hp => by cases hp), (fun w hw => by cases hw), rfl, by simp, fun _ => ⟨rfl, Rm.start _ _ _⟩, Rm.start _ _ _, i2, i3, i6, i4, fun z _ _ => ⟨rfl, rfl⟩⟩ rfl (fun _ _ => rfl) ?_ ?_ (by decide)
    · simp only [go_sem, reduceIte, Nat.reduceEqDiff, Nat.reduceAdd, Nat.reduceMul, Nat.reduceSub, Nat.reduceLeDiff, Nat.reduceLT, reduceCtorEq, Int.natCast_zero]
    · intro i ⟨ps, tp, ws, tw, H⟩ hi ⟨j1, j2, j3, j4, j5, j6, j7, j8, jj, j9, j10⟩
      simp only at j1 j2 j3 j4 j5 j6 j7 j8 jj j9 j10 ⊢
      have hli := hL3 _ (List.getElem_mem hi)
      refine aw_sr rfl ?_  -- r15 @keep.go:354
      simp only [go_sem, reduceIte, Nat.reduceEqDiff, Nat.reduceAdd, Nat.reduceMul, Nat.reduceSub, Nat.reduceLeDiff, Nat.reduceLT, reduceCtorEq, getD_map hi, eStr]
      refine ⟨⟨by omega, by omega, wid_eStr _⟩, ?_⟩
      refine aw_seq fun K23 hK23 => ?_
      refine aw_sr rfl ?_  -- r16 @keep.go:355
      simp only [go_sem, reduceIte, Nat.reduceEqDiff, Nat.reduceAdd, Nat.reduceMul, Nat.reduceSub, Nat.reduceLeDiff, Nat.reduceLT, reduceCtorEq, show Int.toNat 8 = 8 from rfl, getD_b (show 8 < b.length by omega), hn8, wrap_c c8]
      refine ⟨⟨by omega, by omega, wid_bytes _⟩, ?_⟩
      refine aw_if rfl (fun h => ?_) (fun h => ?_)
      · have hlt : i < n8 := by rw [decide_eq_true_eq] at h; omega
        obtain ⟨rfl, hrp⟩ := j5 (by omega)
        have hw0 : ws = [] := List.eq_nil_of_length_eq_zero (by omega)
        subst hw0
        have hpl : ps.length = i := by simpa using j3
        have hcz : ∀ z, GoodN z → snapB z = b → ∃ hp : i < z.2.1.1.length, readPF L[i] = (z.2.1.1[i], 0) := by
          intro z hz hzb
          obtain ⟨e1, e2, e3⟩ := hcan z hz hzb
          subst e3
          exact ⟨by omega, piece_par hz hi (by omega)⟩
        have hfin := readPF_fine L[i]
        have hrok := readPF_ok (b := L[i])
        generalize L[i] = x at hli hcz hfin hrok ⊢
        refine aw_sr rfl ?_  -- r17 @keep.go:356
        simp only [go_sem, reduceIte, Nat.reduceEqDiff, Nat.reduceAdd, Nat.reduceMul, Nat.reduceSub, Nat.reduceLeDiff, Nat.reduceLT, reduceCtorEq]
        refine goA_q (q_ParcelOf x false (by show _ ≤ 1048576; omega)) ?_
        generalize readPF x = r at hcz hfin hrok ⊢
        simp only [go_sem, reduceIte, Nat.reduceEqDiff, Nat.reduceAdd, Nat.reduceMul, Nat.reduceSub, Nat.reduceLeDiff, Nat.reduceLT, reduceCtorEq]
        intro b12 hb12
        have n72 : ¬ b7 = b12 := ne_fresh j7 hb12
        refine aw_box1 hb12 fun B5 hs5 h12 => ?_
        replace j7 := hs5 _ _ j7
        replace j8 := hs5 _ _ j8
        replace jj := hs5 _ _ jj
        replace j9 := sub_trans j9 hs5
        replace hrp := hrp.sub hs5
        refine aw_seq fun K24 hK24 => ?_
        refine aw_sr rfl ?_  -- r18 @keep.go:357
        simp only [go_sem, reduceIte, Nat.reduceEqDiff, Nat.reduceAdd, Nat.reduceMul, Nat.reduceSub, Nat.reduceLeDiff, Nat.reduceLT, reduceCtorEq]
        refine aw_if rfl (fun h => ?_) (fun h => ?_)
        · refine aw_sr rfl ?_  -- r19 @keep.go:358
          simp only [go_sem, reduceIte, Nat.reduceEqDiff, Nat.reduceAdd, Nat.reduceMul, Nat.reduceSub, Nat.reduceLeDiff, Nat.reduceLT, reduceCtorEq, j8, jj]
          have h24 := hget_hset_self (y := .vars snZ) j8
          refine aw_ret ⟨trivial, ?_⟩
          simp only [go_sem, reduceIte, Nat.reduceEqDiff, Nat.reduceAdd, Nat.reduceMul, Nat.reduceSub, Nat.reduceLeDiff, Nat.reduceLT, reduceCtorEq, resL, resOf, h24]
          refine ⟨_, rfl, ?_, sub_hset_fresh hb2 j9⟩
          rw [readNF_no (fun z hz hzb => by obtain ⟨_, e⟩ := hcz z hz hzb; rw [e] at h; simp at h)]
          exact no_vle
        have hr0 : r.2 = 0 := by simpa using h
        have hgp := (hrok hr0).1
        refine aw_skip (hK24 _ _ ?_)
        refine aw_sr rfl ?_  -- r20 @keep.go:360
        simp only [go_sem, reduceIte, Nat.reduceEqDiff, Nat.reduceAdd, Nat.reduceMul, Nat.reduceSub, Nat.reduceLeDiff, Nat.reduceLT, reduceCtorEq, j7, h12]
        refine goP_rm hrp j9 ?_ fun t1 H1 hr1 hs1 hg1 => ?_
        · exact ⟨rfl, rfl, by decide, wid_ePcl _, wid_one rfl, sca_one rfl, by simp; omega, by simp; omega⟩
        have u5 := hg1.vars j7
        have u2 := hg1.vars j8
        have u4 := hg1.vars jj
        simp only [go_sem, reduceIte, Nat.reduceEqDiff, Nat.reduceAdd, Nat.reduceMul, Nat.reduceSub, Nat.reduceLeDiff, Nat.reduceLT, reduceCtorEq, u5, Bool.and_false]
        have hsn : ps.map ePcl ++ [cPcl r.1] = (ps ++ [r.1]).map ePcl := by rw [List.map_append, List.map_cons, List.map_nil]; rfl
        rw [hsn]
        generalize hH3 : hset H1 b7 _ = H3
        obtain ⟨v5, hk, _, hRm, hS⟩ := st_facts hH3 u5 (fun _ _ e => by cases e)
        refine aw_exit ?_  -- 3
        refine ⟨(ps ++ [r.1], t1, [], .full, H3), ⟨?_, j2, by simp [hpl], by simp; omega, fun _ => ⟨rfl, hRm _ _ _ hr1⟩, Rm.start _ _ _, ?_, hk _ _ n27 u2, hk _ _ n47 u4, hS _ hG7 hs1, fun z hz hzb => ?_⟩, ?_, sub_rfl⟩
        · intro p hp
          rcases List.mem_append.1 hp with hp | hp
          · exact j1 p hp
          · rw [List.mem_singleton.1 hp]; exact hgp
        · rw [isEmpty_snoc]; exact v5
        · obtain ⟨hp, e⟩ := hcz z hz hzb
          obtain ⟨q1, q2⟩ := j10 z hz hzb
          refine ⟨?_, rfl⟩
          rw [hpl] at q1
          show ps ++ [r.1] = z.2.1.1.take (ps ++ [r.1]).length
          rw [List.length_append, List.length_singleton, hpl, List.take_succ_eq_append_getElem hp, ← q1, e]
        · simp only [go_sem, reduceIte, Nat.reduceEqDiff, Nat.reduceAdd, Nat.reduceMul, Nat.reduceSub, Nat.reduceLeDiff, Nat.reduceLT, reduceCtorEq]
      · have hge : ¬ i < n8 := by rw [decide_eq_false_iff_not] at h; omega
        refine aw_skip (hK23 _ _ ?_)
        have hcz : ∀ z, GoodN z → snapB z = b → ∃ hp : i - n8 < z.2.2.1.length, wayF L[i] = some z.2.2.1[i - n8] := by
          intro z hz hzb
          obtain ⟨e1, e2, e3⟩ := hcan z hz hzb
          subst e3
          subst e1
          exact ⟨by omega, (piece_way hz hi hge (by omega)).1⟩
        have hwf : ∀ w, wayF L[i] = some w → FineW w := fun w hw => wayF_fine (by show _ ≤ 1048576; omega) hw
        generalize hLx : L[i] = x at hli hcz hwf ⊢
        refine aw_seq fun K25 hK25 => ?_
        refine aw_sr rfl ?_  -- r21 @keep.go:363
        simp only [go_sem, reduceIte, Nat.reduceEqDiff, Nat.reduceAdd, Nat.reduceMul, Nat.reduceSub, Nat.reduceLeDiff, Nat.reduceLT, reduceCtorEq]
        refine aw_if rfl (fun h => ?_) (fun h => ?_)
        · have hlt : x.length < 2 := by rw [decide_eq_true_eq] at h; omega
          refine aw_sr rfl ?_  -- r22 @keep.go:364
          simp only [go_sem, reduceIte, Nat.reduceEqDiff, Nat.reduceAdd, Nat.reduceMul, Nat.reduceSub, Nat.reduceLeDiff, Nat.reduceLT, reduceCtorEq, j8, jj]
          have h24 := hget_hset_self (y := .vars snZ) j8
          refine aw_ret ⟨trivial, ?_⟩
          simp only [go_sem, reduceIte, Nat.reduceEqDiff, Nat.reduceAdd, Nat.reduceMul, Nat.reduceSub, Nat.reduceLeDiff, Nat.reduceLT, reduceCtorEq, resL, resOf, h24]
          refine ⟨_, rfl, ?_, sub_hset_fresh hb2 j9⟩
          rw [readNF_no (fun z hz hzb => by obtain ⟨_, e⟩ := hcz z hz hzb; rw [wayF, if_pos hlt] at e; cases e)]
          exact no_vle
        have hge2 : 2 ≤ x.length := by rw [decide_eq_false_iff_not] at h; omega
        refine aw_skip (hK25 _ _ ?_)
        have d0 := (x.getD 0 0).toNat_lt
        have d1 := (x.getD 1 0).toNat_lt
        refine aw_srd [(0,true),(1,true),(2,true),(3,true),(4,true),(5,true),(6,true),(7,false),(8,false)] mixed rfl (by kernel_rfl) ?_  -- r23 @keep.go:366
        simp only [go_sem, reduceIte, Nat.reduceEqDiff, Nat.reduceAdd, Nat.reduceMul, Nat.reduceSub, Nat.reduceLeDiff, Nat.reduceLT, reduceCtorEq, Int.toNat_zero, toNat1, wrap_c d0, wrap_c d1]
        refine ⟨⟨by omega, by omega⟩, ⟨by omega, by omega⟩, ?_⟩
        intro b14 hb14
        have m7 : ¬ b7 = b14 := ne_fresh j7 hb14
        have m2 : ¬ b2 = b14 := ne_fresh j8 hb14
        have m4 : ¬ b4 = b14 := ne_fresh jj hb14
        have hG14 : hget G b14 = none := none_sub j9 hb14
        refine aw_box1 hb14 fun B6 hs6 h14 => ?_
        replace j7 := hs6 _ _ j7
        replace j8 := hs6 _ _ j8
        replace jj := hs6 _ _ jj
        replace j9 := sub_trans j9 hs6
        replace j6 := j6.sub hs6
        refine aw_sr rfl ?_  -- r24 @keep.go:367
        simp only [go_sem, reduceIte, Nat.reduceEqDiff, Nat.reduceAdd, Nat.reduceMul, Nat.reduceSub, Nat.reduceLeDiff, Nat.reduceLT, reduceCtorEq, toNat2, List.take_length, show ((List.length x : Nat) : Int).toNat = x.length from rfl]
        refine ⟨⟨by omega, by omega⟩, ?_⟩
        refine goA_q (q_Scanned (x.drop 2) false .no (by rw [List.length_drop]; omega)) ?_
        simp only [go_sem, reduceIte, Nat.reduceEqDiff, Nat.reduceAdd, Nat.reduceMul, Nat.reduceSub, Nat.reduceLeDiff, Nat.reduceLT, reduceCtorEq]
        have hmem := scanL_mem _ (x.drop 2) (Nat.le_refl _)
        have hlen := scanL_len (x.drop 2)
        rw [List.length_drop] at hmem hlen
        have hwF : wayF x = if (scanL (x.drop 2)).1.all okL = true then some (at0 x 0, at0 x 1, ((scanL (x.drop 2)).1.map rdL), (scanL (x.drop 2)).1.isEmpty) else none := by rw [wayF, if_neg (by omega)]; rfl
        generalize hM : (scanL (x.drop 2)).1 = M at *
        generalize hm : (scanL (x.drop 2)).2 = m at *
        refine aw_seq fun K26 hK26 => ?_
        refine aw_sr rfl ?_  -- r25 @keep.go:368
        simp only [go_sem, reduceIte, Nat.reduceEqDiff, Nat.reduceAdd, Nat.reduceMul, Nat.reduceSub, Nat.reduceLeDiff, Nat.reduceLT, reduceCtorEq]
        refine aw_range M.length (S := Tag × Heap) (fun _ _ => [(0, .sl (bytesV b) nl .no), (2, .ptr b2 0), (4, .ptr b4 0), (7, .ptr b7 0), (14, .ptr b14 0), (67, .sl (L.map eStr) L.isEmpty .no), (68, .int .i64 ((L.length : Nat) : Int)), (69, .int .i64 ((i : Nat) : Int)), (113, .sl (M.map eStr) M.isEmpty .no)]) (fun _ s => s.2)
          (fun k s => (M.take k).all okL = true ∧ hget s.2 b2 = some (.vars snZ) ∧ hget s.2 b4 = some (.vars snZ) ∧ hget s.2 b7 = some (.vars [.int .i64 t, .sl (ps.map ePcl) ps.isEmpty tp, .sl (ws.map eWyt) ws.isEmpty tw]) ∧ hget s.2 b14 = some (.vars [.int .i64 (at0 x 0), .int .i64 (at0 x 1), .sl (((M.take k).map rdL).map eLt) (M.take k).isEmpty s.1]) ∧ Rm G s.2 9 s.1 ∧ Rm G s.2 3 tw ∧ Dis s.1 tw ∧ Sub G s.2) (.full, B6) (by omega) ?_ (fun _ _ h => h)
          ⟨rfl, j8, jj, j7, by simp only [List.take_zero, List.map_nil, List.isEmpty_nil]; exact h14, Rm.start _ _ _, j6, Dis.full' _, j9⟩ rfl (fun _ _ => rfl) ?_ ?_ (by decide)
        · simp only [go_sem, reduceIte, Nat.reduceEqDiff, Nat.reduceAdd, Nat.reduceMul, Nat.reduceSub, Nat.reduceLeDiff, Nat.reduceLT, reduceCtorEq, Int.natCast_zero]
        · intro k ⟨tl, H2⟩ hk ⟨k1, k2, k4, k7, k14, kr, kw, kd, ks⟩
          simp only at k1 k2 k4 k7 k14 kr kw kd ks ⊢
          refine aw_sr rfl ?_  -- r27 @keep.go:368
          simp only [go_sem, reduceIte, Nat.reduceEqDiff, Nat.reduceAdd, Nat.reduceMul, Nat.reduceSub, Nat.reduceLeDiff, Nat.reduceLT, reduceCtorEq, getD_map hk, eStr]
          refine ⟨⟨by omega, by omega, wid_eStr _⟩, ?_⟩
          have hlb := hmem _ (List.getElem_mem hk)
          refine aw_sr rfl ?_  -- r28 @keep.go:369
          simp only [go_sem, reduceIte, Nat.reduceEqDiff, Nat.reduceAdd, Nat.reduceMul, Nat.reduceSub, Nat.reduceLeDiff, Nat.reduceLT, reduceCtorEq]
          refine goA_q (q_LetterOf M[k] false (by show _ ≤ 1048576; omega)) ?_
          simp only [go_sem, reduceIte, Nat.reduceEqDiff, Nat.reduceAdd, Nat.reduceMul, Nat.reduceSub, Nat.reduceLeDiff, Nat.reduceLT, reduceCtorEq]
          intro b19 hb19
          refine aw_box1 hb19 fun B7 hs7 h19 => ?_
          replace k2 := hs7 _ _ k2
          replace k4 := hs7 _ _ k4
          replace k7 := hs7 _ _ k7
          replace k14 := hs7 _ _ k14
          replace kr := kr.sub hs7
          replace kw := kw.sub hs7
          replace ks := sub_trans ks hs7
          refine aw_seq fun K27 hK27 => ?_
          refine aw_sr rfl ?_  -- r29 @keep.go:370
          simp only [go_sem, reduceIte, Nat.reduceEqDiff, Nat.reduceAdd, Nat.reduceMul, Nat.reduceSub, Nat.reduceLeDiff, Nat.reduceLT, reduceCtorEq]
          refine aw_if rfl (fun h => ?_) (fun h => ?_)
          · have hno : okL M[k] = false := by unfold okL; simpa using h
            refine aw_sr rfl ?_  -- r30 @keep.go:371
            simp only [go_sem, reduceIte, Nat.reduceEqDiff, Nat.reduceAdd, Nat.reduceMul, Nat.reduceSub, Nat.reduceLeDiff, Nat.reduceLT, reduceCtorEq, k2, k4]
            have h24 := hget_hset_self (y := .vars snZ) k2
            refine aw_ret ⟨trivial, ?_⟩
            simp only [go_sem, reduceIte, Nat.reduceEqDiff, Nat.reduceAdd, Nat.reduceMul, Nat.reduceSub, Nat.reduceLeDiff, Nat.reduceLT, reduceCtorEq, resL, resOf, h24]
            refine ⟨_, rfl, ?_, sub_hset_fresh hb2 ks⟩
            rw [readNF_no (fun z hz hzb => by obtain ⟨_, e⟩ := hcz z hz hzb; rw [hwF, if_neg (all_fail hk hno)] at e; cases e)]
            exact no_vle
          have hok : okL M[k] = true := by unfold okL; simpa using h
          refine aw_skip (hK27 _ _ ?_)
          refine aw_rg rfl ?_  -- r31 @keep.go:373
          simp only [go_sem, reduceIte, Nat.reduceEqDiff, Nat.reduceAdd, Nat.reduceMul, Nat.reduceSub, Nat.reduceLeDiff, Nat.reduceLT, reduceCtorEq, k14, h19]
          refine goP_rm kr ks ?_ fun t1 H1 hr1 hs1 hg1 => ?_
          · exact ⟨rfl, rfl, by decide, wid_eLt _, wid_one rfl, sca_one rfl, by simp; omega, by simp; omega⟩
          have u2 := hg1.vars k2
          have u4 := hg1.vars k4
          have u7 := hg1.vars k7
          have u14 := hg1.vars k14
          obtain ⟨uw, ud⟩ := hg1.2 _ _ _ kw kd
          simp only [go_sem, reduceIte, Nat.reduceEqDiff, Nat.reduceAdd, Nat.reduceMul, Nat.reduceSub, Nat.reduceLeDiff, Nat.reduceLT, reduceCtorEq, u14, Bool.and_false]
          have hsn : ((M.take k).map rdL).map eLt ++ [cLt (readLF M[k]).1] = ((M.take (k + 1)).map rdL).map eLt := by
            rw [List.take_succ_eq_append_getElem hk, List.map_append, List.map_append, List.map_cons, List.map_nil, List.map_cons, List.map_nil]; rfl
          have hie : (M.take (k + 1)).isEmpty = false := by rw [List.take_succ_eq_append_getElem hk]; exact isEmpty_snoc _ _
          rw [hsn]
          generalize hH3 : hset H1 b14 _ = H3
          obtain ⟨u5, hkk, _, hRm, hS⟩ := st_facts hH3 u14 (fun _ _ e => by cases e)
          refine ⟨(t1, H3), ⟨all_next hk k1 hok, hkk _ _ m2 u2, hkk _ _ m4 u4, hkk _ _ m7 u7, ?_, hRm _ _ _ hr1, hRm _ _ _ uw, ud, hS _ hG14 hs1⟩, ?_, sub_rfl⟩
          · rw [hie]; exact u5
          · simp only [go_sem, reduceIte, Nat.reduceEqDiff, Nat.reduceAdd, Nat.reduceMul, Nat.reduceSub, Nat.reduceLeDiff, Nat.reduceLT, reduceCtorEq]
        intro ⟨tl, H2⟩ ⟨k1, k2, k4, k7, k14, kr, kw, kd, ks⟩
        simp only at k1 k2 k4 k7 k14 kr kw kd ks ⊢
        rw [List.take_length] at k1 k14
        rw [if_pos k1] at hwF
        have hfw := hwf _ hwF
        refine hK26 _ _ ?_
        generalize hwd : ((at0 x 0, at0 x 1, M.map rdL, M.isEmpty) : Wyt) = w at hwF hfw
        refine AW.hle (ds := cWyt w) k14 (by rw [← hwd]; repeat (first | exact .nil | refine .cons (Vle.refl _) ?_ | refine .cons Vle.untag ?_ | refine .cons (Vle.aggL ?_) ?_ | refine .cons (Vle.slE ?_) ?_)) ?_
        generalize hH4 : hset H2 b14 _ = H4
        obtain ⟨v14, hkk, _, hRm, hS⟩ := st_facts hH4 k14 (fun _ _ e => by cases e)
        replace k2 := hkk _ _ m2 k2
        replace k4 := hkk _ _ m4 k4
        replace k7 := hkk _ _ m7 k7
        replace kw := hRm _ _ _ kw
        replace ks := hS _ hG14 ks
        clear hkk hRm hS hH4
        refine aw_rg rfl ?_  -- r33 @keep.go:375
        simp only [go_sem, reduceIte, Nat.reduceEqDiff, Nat.reduceAdd, Nat.reduceMul, Nat.reduceSub, Nat.reduceLeDiff, Nat.reduceLT, reduceCtorEq, k7, v14]
        refine goP_rm kw ks ?_ fun t1 H1 hr1 hs1 hg1 => ?_
        · exact ⟨rfl, rfl, by decide, wid_eWyt _, wid_one rfl, sca_one rfl, by simp; omega, by simp; omega⟩
        have u7 := hg1.vars k7
        have u2 := hg1.vars k2
        have u4 := hg1.vars k4
        simp only [go_sem, reduceIte, Nat.reduceEqDiff, Nat.reduceAdd, Nat.reduceMul, Nat.reduceSub, Nat.reduceLeDiff, Nat.reduceLT, reduceCtorEq, u7, Bool.and_false]
        have hsn : ws.map eWyt ++ [cWyt w] = (ws ++ [w]).map eWyt := by rw [List.map_append, List.map_cons, List.map_nil]; rfl
        rw [hsn]
        generalize hH3 : hset H1 b7 _ = H3
        obtain ⟨v5, hk, _, hRm, hS⟩ := st_facts hH3 u7 (fun _ _ e => by cases e)
        refine ⟨(ps, tp, ws ++ [w], t1, H3), ⟨j1, ?_, by show ps.length + (ws ++ [w]).length = i + 1; rw [List.length_append, List.length_singleton]; omega, by show (ws ++ [w]).length = _; rw [List.length_append, List.length_singleton]; omega, fun e => by omega, hRm _ _ _ hr1, ?_, hk _ _ n27 u2, hk _ _ n47 u4, hS _ hG7 hs1, fun z hz hzb => ?_⟩, ?_, sub_rfl⟩
        · intro p hp
          rcases List.mem_append.1 hp with hp | hp
          · exact j2 p hp
          · rw [List.mem_singleton.1 hp]; exact hfw
        · rw [isEmpty_snoc]; exact v5
        · obtain ⟨hp, e⟩ := hcz z hz hzb
          obtain ⟨q1, q2⟩ := j10 z hz hzb
          refine ⟨q1, ?_⟩
          rw [hwF] at e
          have e := Option.some.inj e
          rw [j4] at q2
          show ws ++ [w] = z.2.2.1.take (ws ++ [w]).length
          rw [List.length_append, List.length_singleton, j4, List.take_succ_eq_append_getElem hp, ← q2, e]
        · simp only [go_sem, reduceIte, Nat.reduceEqDiff, Nat.reduceAdd, Nat.reduceMul, Nat.reduceSub, Nat.reduceLeDiff, Nat.reduceLT, reduceCtorEq]
    intro ⟨ps, tp, ws, tw, H⟩ ⟨j1, j2, j3, j4, j5, j6, j7, j8, jj, j9, j10⟩
    simp only at j1 j2 j3 j4 j5 j6 j7 j8 jj j9 j10 ⊢
    refine hK22 _ _ ?_
    have hv : FineN (t, (ps, ps.isEmpty), (ws, ws.isEmpty)) := ⟨i1, ⟨j1, by show ps.length ≤ _; omega, rfl⟩, j2, by show ws.length ≤ _; omega, rfl⟩
    have hcanz : ∀ z, GoodN z → snapB z = b → (t, (ps, ps.isEmpty), (ws, ws.isEmpty)) = z := by
      intro z hz hzb
      obtain ⟨q1, q2⟩ := j10 z hz hzb
      obtain ⟨e1, e2, _⟩ := hcan z hz hzb
      have q0 := i5 z hz hzb
      rw [Nat.sub_self, Int.pow_zero, Int.ediv_one] at q0
      have l1 : ps.length = z.2.1.1.length := by omega
      have l2 : ws.length = z.2.2.1.length := by omega
      rw [l1, List.take_length] at q1
      rw [l2, List.take_length] at q2
      obtain ⟨zt, ⟨zp, zpn⟩, zw, zwn⟩ := z
      have n1 := hz.1.2.1.2.2
      have n2 := hz.1.2.2.2.2
      simp only at q0 q1 q2 n1 n2
      rw [n1, n2, q0, q1, q2]
    refine AW.hle (ds := cSnp (t, (ps, ps.isEmpty), (ws, ws.isEmpty))) j7 (by repeat (first | exact .nil | refine .cons (Vle.refl _) ?_ | refine .cons Vle.untag ?_ | refine .cons (Vle.aggL ?_) ?_ | refine .cons (Vle.slE ?_) ?_)) ?_
    generalize hH8 : hset H b7 _ = H8
    obtain ⟨h5, hk, _, _, hS⟩ := st_facts hH8 j7 (fun _ _ e => by cases e)
    have h27 := hk _ _ n27 j8
    have h47 := hk _ _ n47 jj
    have hsG := hS _ hG7 j9
    clear hS hk hH8
    generalize hvv : ((t, (ps, ps.isEmpty), (ws, ws.isEmpty)) : Snp) = v at hv hcanz h5
    refine aw_sr rfl ?_  -- r35 @keep.go:377
    simp only [go_sem, reduceIte, Nat.reduceEqDiff, Nat.reduceAdd, Nat.reduceMul, Nat.reduceSub, Nat.reduceLeDiff, Nat.reduceLT, reduceCtorEq, h5]
    refine goA_q (q_SnapBytes v hv.ok) ?_
    simp only [go_sem, reduceIte, Nat.reduceEqDiff, Nat.reduceAdd, Nat.reduceMul, Nat.reduceSub, Nat.reduceLeDiff, Nat.reduceLT, reduceCtorEq]
    refine aw_seq fun K28 hK28 => ?_
    refine aw_sr rfl ?_  -- r36 @keep.go:378
    simp only [go_sem, reduceIte, Nat.reduceEqDiff, Nat.reduceAdd, Nat.reduceMul, Nat.reduceSub, Nat.reduceLeDiff, Nat.reduceLT, reduceCtorEq]
    refine aw_if rfl (fun h => ?_) (fun h => ?_)
    · refine aw_sr rfl ?_  -- r37 @keep.go:379
      simp only [go_sem, reduceIte, Nat.reduceEqDiff, Nat.reduceAdd, Nat.reduceMul, Nat.reduceSub, Nat.reduceLeDiff, Nat.reduceLT, reduceCtorEq, h27, h47]
      have h24 := hget_hset_self (y := .vars snZ) h27
      refine aw_ret ⟨trivial, ?_⟩
      simp only [go_sem, reduceIte, Nat.reduceEqDiff, Nat.reduceAdd, Nat.reduceMul, Nat.reduceSub, Nat.reduceLeDiff, Nat.reduceLT, reduceCtorEq, resL, resOf, h24]
      refine ⟨_, rfl, ?_, sub_hset_fresh hb2 hsG⟩
      rw [readNF_no (fun z hz hzb => by
        have e := hcanz z hz hzb
        subst e
        rw [snapR_good hz] at h
        simp [hzb] at h)]
      exact no_vle
    refine aw_skip (hK28 _ _ ?_)
    refine aw_sr rfl ?_  -- r38 @keep.go:381
    simp only [go_sem, reduceIte, Nat.reduceEqDiff, Nat.reduceAdd, Nat.reduceMul, Nat.reduceSub, Nat.reduceLeDiff, Nat.reduceLT, reduceCtorEq, h27, h5]
    have h24 := hget_hset_self (y := .vars (cSnp v)) h27
    refine aw_ret ⟨trivial, ?_⟩
    simp only [go_sem, reduceIte, Nat.reduceEqDiff, Nat.reduceAdd, Nat.reduceMul, Nat.reduceSub, Nat.reduceLeDiff, Nat.reduceLT, reduceCtorEq, resL, resOf, h24]
    refine ⟨_, rfl, ?_, sub_hset_fresh hb2 hsG⟩
    have hd : (snapR v).2 = 0 ∧ (snapR v).1.1 = b := by
      by_cases g3 : (snapR v).2 = 0 <;> by_cases g4 : (snapR v).1.1 = b <;> simp [g3, g4] at h ⊢
    obtain ⟨o1, o2, o3⟩ := snapR_ok hd.1 hd.2
    rw [readNF_yes (v := v) ⟨hv, o1, o2⟩ o3 hcanz]
    exact Vle.refl _
end Go.Proofs.Ytlgfffngojlffaa

/- Snapshots compared with themselves; the law StoreRead. No conditions. -/
set_option linter.unusedSimpArgs false
set_option linter.unusedVariables false
namespace Go.Proofs.Ytlgfffngojlffaa
open Go.Proofs.YtlgfffngojlffaaV
set_option maxHeartbeats 400000
set_option maxRecDepth 100000
theorem q_EqPcls (F : FuncId) (xs ys : List Pcl) (n1 n2 : Bool) (t1 t2 : Tag) (hx : (xs.length : Int) ≤ 9223372036854775807) (hl : xs.length = ys.length)
    (hF : ∀ i (h1 : i < xs.length) (h2 : i < ys.length), Quiet Try.prog F [.agg (cPcl xs[i]), .agg (cPcl ys[i])] (.bool true)) :
    Quiet Try.prog 190 [.sl (xs.map ePcl) n1 t1, .sl (ys.map ePcl) n2 t2, .func (.func F) [] []] (.bool true) := by
  refine Quiet.weak fun G => ?_
  refine acall_body (rs := [.tmp 6]) Try.func190 rfl rfl Try.ntmps190 (by kernel_rfl) (Nat.le_of_ble_eq_true rfl) ?_
  refine aw_sr rfl ?_
  simp only [go_sem, reduceIte, Nat.reduceEqDiff, Nat.reduceAdd, Nat.reduceMul, Nat.reduceSub, Nat.reduceLeDiff, Nat.reduceLT, reduceCtorEq]
  refine aw_seq fun K1 hK1 => ?_
  refine aw_sr rfl ?_
  simp only [go_sem, reduceIte, Nat.reduceEqDiff, Nat.reduceAdd, Nat.reduceMul, Nat.reduceSub, Nat.reduceLeDiff, Nat.reduceLT, reduceCtorEq]
  refine aw_if rfl (fun h => ?_) (fun h => ?_)
  · have h : ¬ xs.length = ys.length := by simpa [Int.natCast_inj] using h
    exact absurd hl h
  · refine aw_skip (hK1 _ _ ?_)
    refine aw_seq fun K2 hK2 => ?_
    refine aw_sr rfl ?_
    simp only [go_sem, reduceIte, Nat.reduceEqDiff, Nat.reduceAdd, Nat.reduceMul, Nat.reduceSub, Nat.reduceLeDiff, Nat.reduceLT, reduceCtorEq]
    refine aw_range xs.length (S := Unit) (fun _ _ => [(15, .sl (xs.map ePcl) n1 t1), (1, .sl (ys.map ePcl) n2 t2), (2, .func (.func F) [] [])]) (fun _ _ => G) (fun i _ => True) () hx ?_ (fun _ _ h => h) trivial rfl (fun _ _ => rfl) ?_ ?_ (by decide)
    · simp only [go_sem, reduceIte, Nat.reduceEqDiff, Nat.reduceAdd, Nat.reduceMul, Nat.reduceSub, Nat.reduceLeDiff, Nat.reduceLT, reduceCtorEq, Int.natCast_zero]
    · intro i _ hi he
      have hi2 : i < ys.length := hl ▸ hi
      refine aw_sr rfl ?_
      simp only [go_sem, reduceIte, Nat.reduceEqDiff, Nat.reduceAdd, Nat.reduceMul, Nat.reduceSub, Nat.reduceLeDiff, Nat.reduceLT, reduceCtorEq, getD_map hi, getD_map hi2, ePcl]
      refine ⟨⟨by omega, by omega, wid_map (g := ePcl) (fun _ => by simp [ePcl]) _⟩, fun b hb => ?_⟩
      refine aw_sr rfl ?_
      simp only [go_sem, reduceIte, Nat.reduceEqDiff, Nat.reduceAdd, Nat.reduceMul, Nat.reduceSub, Nat.reduceLeDiff, Nat.reduceLT, reduceCtorEq, getD_map hi, getD_map hi2, ePcl]
      refine ⟨⟨by omega, by omega, wid_map (g := ePcl) (fun _ => by simp [ePcl]) _⟩, fun b2 hb2 => ?_⟩
      have hne : ¬ b2 = b := by intro e; subst e; rw [hget_cons, if_pos rfl] at hb2; cases hb2
      refine aw_sr rfl ?_
      simp only [go_sem, reduceIte, Nat.reduceEqDiff, Nat.reduceAdd, Nat.reduceMul, Nat.reduceSub, Nat.reduceLeDiff, Nat.reduceLT, reduceCtorEq, hget_cons, hne]
      have hq := hF i hi hi2
      refine goA_q hq ?_
      simp only [go_sem, reduceIte, Nat.reduceEqDiff, Nat.reduceAdd, Nat.reduceMul, Nat.reduceSub, Nat.reduceLeDiff, Nat.reduceLT, reduceCtorEq]
      refine aw_if rfl (fun h => ?_) (fun h => ?_)
      · simp at h
      · refine aw_skip ⟨(), ?_, fun b' o' h => hsub_at hb2 _ _ (hsub_at hb _ _ h)⟩
        simp only [go_sem, reduceIte, Nat.reduceEqDiff, Nat.reduceAdd, Nat.reduceMul, Nat.reduceSub, Nat.reduceLeDiff, Nat.reduceLT, reduceCtorEq]
    · intro _ he
      refine hK2 _ _ ?_
      refine aw_sr rfl ?_
      simp only [go_sem, reduceIte, Nat.reduceEqDiff, Nat.reduceAdd, Nat.reduceMul, Nat.reduceSub, Nat.reduceLeDiff, Nat.reduceLT, reduceCtorEq]
      refine aw_ret ⟨trivial, _, rfl, ?_, fun _ _ h => h⟩
      exact Vle.refl _
theorem q_EqWyts (F : FuncId) (xs ys : List Wyt) (n1 n2 : Bool) (t1 t2 : Tag) (hx : (xs.length : Int) ≤ 9223372036854775807) (hl : xs.length = ys.length)
    (hF : ∀ i (h1 : i < xs.length) (h2 : i < ys.length), Quiet Try.prog F [.agg (cWyt xs[i]), .agg (cWyt ys[i])] (.bool true)) :
    Quiet Try.prog 191 [.sl (xs.map eWyt) n1 t1, .sl (ys.map eWyt) n2 t2, .func (.func F) [] []] (.bool true) := by
  refine Quiet.weak fun G => ?_
  refine acall_body (rs := [.tmp 6]) Try.func191 rfl rfl Try.ntmps191 (by kernel_rfl) (Nat.le_of_ble_eq_true rfl) ?_
  refine aw_sr rfl ?_
  simp only [go_sem, reduceIte, Nat.reduceEqDiff, Nat.reduceAdd, Nat.reduceMul, Nat.reduceSub, Nat.reduceLeDiff, Nat.reduceLT, reduceCtorEq]
  refine aw_seq fun K1 hK1 => ?_
  refine aw_sr rfl ?_
  simp only [go_sem, reduceIte, Nat.reduceEqDiff, Nat.reduceAdd, Nat.reduceMul, Nat.reduceSub, Nat.reduceLeDiff, Nat.reduceLT, reduceCtorEq]
  refine aw_if rfl (fun h => ?_) (fun h => ?_)
  · have h : ¬ xs.length = ys.length := by simpa [Int.natCast_inj] using h
    exact absurd hl h
  · refine aw_skip (hK1 _ _ ?_)
    refine aw_seq fun K2 hK2 => ?_
    refine aw_sr rfl ?_
    simp only [go_sem, reduceIte, Nat.reduceEqDiff, Nat.reduceAdd, Nat.reduceMul, Nat.reduceSub, Nat.reduceLeDiff, Nat.reduceLT, reduceCtorEq]
    refine aw_range xs.length (S := Unit) (fun _ _ => [(15, .sl (xs.map eWyt) n1 t1), (1, .sl (ys.map eWyt) n2 t2), (2, .func (.func F) [] [])]) (fun _ _ => G) (fun i _ => True) () hx ?_ (fun _ _ h => h) trivial rfl (fun _ _ => rfl) ?_ ?_ (by decide)
    · simp only [go_sem, reduceIte, Nat.reduceEqDiff, Nat.reduceAdd, Nat.reduceMul, Nat.reduceSub, Nat.reduceLeDiff, Nat.reduceLT, reduceCtorEq, Int.natCast_zero]
    · intro i _ hi he
      have hi2 : i < ys.length := hl ▸ hi
      refine aw_sr rfl ?_
      simp only [go_sem, reduceIte, Nat.reduceEqDiff, Nat.reduceAdd, Nat.reduceMul, Nat.reduceSub, Nat.reduceLeDiff, Nat.reduceLT, reduceCtorEq, getD_map hi, getD_map hi2, eWyt]
      refine ⟨⟨by omega, by omega, wid_map (g := eWyt) (fun _ => by simp [eWyt]) _⟩, fun b hb => ?_⟩
      refine aw_sr rfl ?_
      simp only [go_sem, reduceIte, Nat.reduceEqDiff, Nat.reduceAdd, Nat.reduceMul, Nat.reduceSub, Nat.reduceLeDiff, Nat.reduceLT, reduceCtorEq, getD_map hi, getD_map hi2, eWyt]
      refine ⟨⟨by omega, by omega, wid_map (g := eWyt) (fun _ => by simp [eWyt]) _⟩, fun b2 hb2 => ?_⟩
      have hne : ¬ b2 = b := by intro e; subst e; rw [hget_cons, if_pos rfl] at hb2; cases hb2
      refine aw_sr rfl ?_
      simp only [go_sem, reduceIte, Nat.reduceEqDiff, Nat.reduceAdd, Nat.reduceMul, Nat.reduceSub, Nat.reduceLeDiff, Nat.reduceLT, reduceCtorEq, hget_cons, hne]
      have hq := hF i hi hi2
      refine goA_q hq ?_
      simp only [go_sem, reduceIte, Nat.reduceEqDiff, Nat.reduceAdd, Nat.reduceMul, Nat.reduceSub, Nat.reduceLeDiff, Nat.reduceLT, reduceCtorEq]
      refine aw_if rfl (fun h => ?_) (fun h => ?_)
      · simp at h
      · refine aw_skip ⟨(), ?_, fun b' o' h => hsub_at hb2 _ _ (hsub_at hb _ _ h)⟩
        simp only [go_sem, reduceIte, Nat.reduceEqDiff, Nat.reduceAdd, Nat.reduceMul, Nat.reduceSub, Nat.reduceLeDiff, Nat.reduceLT, reduceCtorEq]
    · intro _ he
      refine hK2 _ _ ?_
      refine aw_sr rfl ?_
      simp only [go_sem, reduceIte, Nat.reduceEqDiff, Nat.reduceAdd, Nat.reduceMul, Nat.reduceSub, Nat.reduceLeDiff, Nat.reduceLT, reduceCtorEq]
      refine aw_ret ⟨trivial, _, rfl, ?_, fun _ _ h => h⟩
      exact Vle.refl _
theorem q_sameSnap1 (w : Wyt) (h : FineW w) : Quiet Try.prog 192 [.agg (cWyt w), .agg (cWyt w)] (.bool true) := by
  obtain ⟨h1, h2, h3, h4, h5⟩ := h
  refine Quiet.weak fun G => ?_
  refine acall_body (rs := [.tmp 4]) Try.func192 rfl rfl Try.ntmps192 (by kernel_rfl) (Nat.le_of_ble_eq_true rfl) ?_
  refine aw_sr rfl ?_
  simp only [go_sem, reduceIte, Nat.reduceEqDiff, Nat.reduceAdd, Nat.reduceMul, Nat.reduceSub, Nat.reduceLeDiff, Nat.reduceLT, reduceCtorEq]
  intro b2 hb2
  intro b3 hb3
  refine aw_box2 hb2 hb3 fun B1 hs1 h2' h3' _ _ => ?_
  have hsB := hs1
  refine aw_sr rfl ?_
  simp only [go_sem, reduceIte, Nat.reduceEqDiff, Nat.reduceAdd, Nat.reduceMul, Nat.reduceSub, Nat.reduceLeDiff, Nat.reduceLT, reduceCtorEq, h2', h3']
  refine goH_q (fun hg => q_EqLts 147 w.2.2.1 w.2.2.1 _ _ _ _ (by omega) rfl (fun i h1 _ => q_sameLetter _ (h3 _ (List.getElem_mem h1)).1.2.2.2.2.2.1.ok)) ?_
  simp only [go_sem, reduceIte, Nat.reduceEqDiff, Nat.reduceAdd, Nat.reduceMul, Nat.reduceSub, Nat.reduceLeDiff, Nat.reduceLT, reduceCtorEq, h2', h3']
  refine aw_ret ⟨trivial, _, rfl, ?_, hsB⟩
  exact Vle.refl _
theorem q_sameSnap (x : Snp) (h : FineN x) : Quiet Try.prog 82 [.agg (cSnp x), .agg (cSnp x)] (.bool true) := by
  obtain ⟨h1, ⟨h2, h3, h4⟩, h5, h6, h7⟩ := h
  refine Quiet.weak fun G => ?_
  refine acall_body (rs := [.tmp 4]) Try.func82 rfl rfl Try.ntmps82 (by kernel_rfl) (Nat.le_of_ble_eq_true rfl) ?_
  refine aw_sr rfl ?_  -- r0 @low.go:36
  simp only [go_sem, reduceIte, Nat.reduceEqDiff, Nat.reduceAdd, Nat.reduceMul, Nat.reduceSub, Nat.reduceLeDiff, Nat.reduceLT, reduceCtorEq]
  intro b2 hb2
  intro b3 hb3
  refine aw_box2 hb2 hb3 fun B1 hs1 h2' h3' _ _ => ?_
  have hsB := hs1
  refine aw_sr rfl ?_  -- r1 @low.go:37
  simp only [go_sem, reduceIte, Nat.reduceEqDiff, Nat.reduceAdd, Nat.reduceMul, Nat.reduceSub, Nat.reduceLeDiff, Nat.reduceLT, reduceCtorEq, h2', h3']
  refine goH_q (fun hg => q_EqPcls 60 x.2.1.1 x.2.1.1 _ _ _ _ (by omega) rfl (fun i h1 _ => q_sameParcel _ (h2 _ (List.getElem_mem h1)).1)) ?_
  simp only [go_sem, reduceIte, Nat.reduceEqDiff, Nat.reduceAdd, Nat.reduceMul, Nat.reduceSub, Nat.reduceLeDiff, Nat.reduceLT, reduceCtorEq, h2', h3']
  refine goH_q (fun hg => q_EqWyts 192 x.2.2.1 x.2.2.1 _ _ _ _ (by omega) rfl (fun i h1 _ => q_sameSnap1 _ (h5 _ (List.getElem_mem h1)))) ?_
  simp only [go_sem, reduceIte, Nat.reduceEqDiff, Nat.reduceAdd, Nat.reduceMul, Nat.reduceSub, Nat.reduceLeDiff, Nat.reduceLT, reduceCtorEq, h2', h3']
  refine aw_ret ⟨trivial, _, rfl, ?_, hsB⟩
  exact Vle.refl _
theorem beB_inj : ∀ (k : Nat) (n m : Int), 0 ≤ n → 0 ≤ m → n < 256 ^ k → m < 256 ^ k → beB k n = beB k m → n = m
  | 0, n, m, h1, h2, h3, h4, _ => by simp at h3 h4; omega
  | k + 1, n, m, h1, h2, h3, h4, h => by
    rw [beB, beB] at h
    obtain ⟨e1, e2⟩ := List.append_inj' h rfl
    have e3 := (List.cons.inj e2).1
    rw [Int.pow_succ] at h3 h4
    have e4 := beB_inj k _ _ (by omega) (by omega) (Int.ediv_lt_of_lt_mul (by decide) h3) (Int.ediv_lt_of_lt_mul (by decide) h4) e1
    have e5 := u8_cast n
    have e6 := u8_cast m
    rw [e3] at e5
    rw [wrap_u8] at e5 e6
    omega
def b5N : List UInt8 := [0, 0, 0, 0, 0, 0, 0, 5, 0, 0]
def s5N : Snp := (5, ([], true), ([], true))
theorem read_b5N : readNF b5N = (s5N, 0) := by
  have hb : snapB s5N = b5N := by decide
  refine readNF_yes ⟨⟨by decide, ⟨(fun p h => by cases h), by decide, rfl⟩, (fun p h => by cases h), by decide, rfl⟩, by decide, by decide⟩ hb fun z hz hzb => ?_
  obtain ⟨_, e1, e2, e3, _, _⟩ := snap_cut hz hzb (by decide)
  have hc := checkN_good hz.2.1
  have hr := i64_range hz.1.1
  have et : z.1 = 5 := by
    have : beB 8 z.1 = beB 8 5 := by rw [← e1]; decide
    exact beB_inj 8 z.1 5 hc.2.1 (by decide) (Int.lt_of_le_of_lt hr.2 (by decide)) (by decide) this
  have l1 : z.2.1.1 = [] := List.eq_nil_of_length_eq_zero (by have : at0 b5N 8 = 0 := by decide
                                                              omega)
  have l2 : z.2.2.1 = [] := List.eq_nil_of_length_eq_zero (by have : at0 b5N 9 = 0 := by decide
                                                              omega)
  obtain ⟨zt, ⟨zp, zpn⟩, zw, zwn⟩ := z
  have n1 := hz.1.2.1.2.2
  have n2 := hz.1.2.2.2.2
  simp only at et l1 l2 n1 n2
  rw [n1, n2, et, l1, l2]; rfl
namespace storeRead
theorem law (y : List UInt8 × Bool) (hy : (y.2 = true → y.1 = []) ∧ y.1.length ≤ bulk) : Quiet Try.prog 13 [.sl (bytesV y.1) y.2 .no] (.bool true) := by
  obtain ⟨b, nl⟩ := y
  obtain ⟨hnl, hb⟩ := hy
  simp only at hnl hb
  have hz := q_Read b5N false (fun e => by cases e) (by decide)
  rw [read_b5N] at hz
  refine Quiet.weak fun G => ?_
  refine acall_body (rs := [.tmp 2]) Try.func13 rfl rfl Try.ntmps13 (by kernel_rfl) (Nat.le_of_ble_eq_true rfl) ?_
  refine aw_sr rfl ?_  -- r0 @low.go:317
  simp only [go_sem, reduceIte, Nat.reduceEqDiff, Nat.reduceAdd, Nat.reduceMul, Nat.reduceSub, Nat.reduceLeDiff, Nat.reduceLT, reduceCtorEq]
  refine aw_seq fun K1 hK1 => ?_
  refine aw_sr rfl ?_  -- r1 @low.go:318
  simp only [go_sem, reduceIte, Nat.reduceEqDiff, Nat.reduceAdd, Nat.reduceMul, Nat.reduceSub, Nat.reduceLeDiff, Nat.reduceLT, reduceCtorEq]
  refine goA_q (Quiet.args hz (.cons (show Vle (.sl [[.int .u8 0], [.int .u8 0], [.int .u8 0], [.int .u8 0], [.int .u8 0], [.int .u8 0], [.int .u8 0], [.int .u8 5], [.int .u8 0], [.int .u8 0]] false .full) (.sl (bytesV b5N) false .no) from Vle.untag) .nil)) ?_
  simp only [go_sem, reduceIte, Nat.reduceEqDiff, Nat.reduceAdd, Nat.reduceMul, Nat.reduceSub, Nat.reduceLeDiff, Nat.reduceLT, reduceCtorEq, s5N]
  intro b3 hb3
  refine aw_box1 hb3 fun B1 hs1 h3 => ?_
  have hsB := hs1
  refine aw_sr rfl ?_  -- r2 @low.go:318
  simp only [go_sem, reduceIte, Nat.reduceEqDiff, Nat.reduceAdd, Nat.reduceMul, Nat.reduceSub, Nat.reduceLeDiff, Nat.reduceLT, reduceCtorEq, h3]
  refine aw_if rfl (fun h => by simp at h) (fun h => ?_)
  refine aw_skip (hK1 _ _ ?_)
  refine aw_sr rfl ?_  -- r4 @low.go:321
  simp only [go_sem, reduceIte, Nat.reduceEqDiff, Nat.reduceAdd, Nat.reduceMul, Nat.reduceSub, Nat.reduceLeDiff, Nat.reduceLT, reduceCtorEq]
  refine goA_q (q_Read b nl hnl hb) ?_
  simp only [go_sem, reduceIte, Nat.reduceEqDiff, Nat.reduceAdd, Nat.reduceMul, Nat.reduceSub, Nat.reduceLeDiff, Nat.reduceLT, reduceCtorEq]
  intro b5 hb5
  refine aw_box1 hb5 fun B2 hs2 h5 => ?_
  replace hsB := sub_trans hsB hs2
  refine aw_sr rfl ?_  -- r5 @low.go:322
  simp only [go_sem, reduceIte, Nat.reduceEqDiff, Nat.reduceAdd, Nat.reduceMul, Nat.reduceSub, Nat.reduceLeDiff, Nat.reduceLT, reduceCtorEq]
  refine goA_q (q_SnapOf b nl hb) ?_
  simp only [go_sem, reduceIte, Nat.reduceEqDiff, Nat.reduceAdd, Nat.reduceMul, Nat.reduceSub, Nat.reduceLeDiff, Nat.reduceLT, reduceCtorEq]
  intro b7 hb7
  refine aw_box1 hb7 fun B3 hs3 h7 => ?_
  replace h5 := hs3 _ _ h5
  replace hsB := sub_trans hsB hs3
  refine aw_sr rfl ?_  -- r6 @low.go:323
  simp only [go_sem, reduceIte, Nat.reduceEqDiff, Nat.reduceAdd, Nat.reduceMul, Nat.reduceSub, Nat.reduceLeDiff, Nat.reduceLT, reduceCtorEq, h5, h7]
  refine goA_q (q_sameSnap (readNF b).1 (readNF_fine b)) ?_
  simp only [go_sem, reduceIte, Nat.reduceEqDiff, Nat.reduceAdd, Nat.reduceMul, Nat.reduceSub, Nat.reduceLeDiff, Nat.reduceLT, reduceCtorEq, h5, h7]
  refine aw_ret ⟨trivial, _, rfl, ?_, hsB⟩
  exact Vle.refl _
end storeRead
end Go.Proofs.Ytlgfffngojlffaa

/- 'roadlaw5.StoreRead' returns true for every input whose bulk is at most 1048576 values and letters (the statement's own bound): . No other condition. -/
set_option linter.unusedSimpArgs false
set_option linter.unusedVariables false
set_option maxRecDepth 100000
namespace Go.Proofs.Ytlgfffngojlffaa.storeRead
open Go.ChangeShapes Go.WideShapes Go.ChangeAt Go.RowKit
open Go.Proofs.YtlgfffngojlffaaV
theorem own : ownKnob Try.prog.godebug = none := by kernel_rfl
theorem laidOut : laidOutB Try.prog = true := by kernel_rfl
theorem uBool : Try.prog.underlying 4 = some .bool := by kernel_rfl
theorem typed {xs : List V} (h : TyAll Try.prog [32] xs) (hs : vszL xs ≤ 1048576) : Quiet Try.prog 13 xs (.bool true) := by
  obtain ⟨x0, rfl, q0⟩ := args h hs
  exact law x0 q0
theorem contract (H : Type) (enc : TypeId × Value → H) (W : World) (base : Nat) (args : Array Value) (ds gs : List (DataW H)) (before : List MemPlace)
    (hval : ∀ (j : Nat) t v, Try.f13.params[j]? = some t → args[j]? = some v → Value.okWide Try.prog W .any base t v)
    (hW : DataW.Whole enc Try.prog Try.f13.params.toList Rows.storeReadSpec.vars false W args.toList ds gs before) (hk : Rows.uptoSmall H (ds ++ gs) = true) :
    Calls Try.prog 13 args W fun e W' => ∃ v, e = .returned v ∧ Rows.storeReadSpec.post enc Try.prog Try.f13 false true false false W args v W' := by
  have hW' := hW
  obtain ⟨p, q, hA0, hV, rfl, hfz, hnd⟩ := hW
  have hA : DataW.TrodAll enc Try.prog W 0 (fun _ => true) true Try.f13.params.toList args.toList ds p := hA0
  obtain ⟨rfl, rfl⟩ := trodVars_none hV
  rw [Try.params13] at hA hval
  obtain ⟨xs, hr, ht, hs⟩ := trod_all (fun j t v hj hv => hval j t v (by simpa using hj) (by simpa using hv)) hA
  have hk' : Rows.uptoBulkAll (ds ++ []) ≤ 1048576 := of_decide_eq_true hk
  rw [List.append_nil] at hk'
  have hq := typed ht (Nat.le_trans hs hk')
  refine (ACall.calls (hq []) Try.func13 rfl rfl hr).mono fun e W' ⟨v, he, bel, M', x, G', hx, hxe, _⟩ => ?_
  subst hxe
  have hv := hx.bool_inv
  subst he hv
  have hst := trod_stays laidOut bel (by kernel_rfl) hA
  obtain ⟨v0, vs0, d0, ds0, p0, q0, hargs, rfl, rfl, h0, r0⟩ := trodAll_cons hA
  obtain ⟨rfl, rfl, rfl⟩ := trodAll_nil r0
  exact ⟨_, rfl, _, _, _, [], _, [], hW', trodAll_mk1 (shut_bool uBool _), hst, rfl, bel.frame _, fun h => by cases h⟩
set_option maxRecDepth 100000 in
theorem lifted (os : Os) (started : os.Started) (H : Type) (enc : TypeId × Value → H) (F : Stop.Interp) :
    ReturnsInHanded {} Try.checked os 13 .any ((Rows.OpenSpec.upto Rows.storeReadSpec).pre6 enc Try.prog Try.f13 Rows.storeReadUptoRow.domain false) (((Rows.OpenSpec.upto Rows.storeReadSpec).at F).post enc Try.prog Try.f13 false true false false) := by
  refine returnsInHanded_of_cond (C := Try.checked) (s := Rows.OpenSpec.upto Rows.storeReadSpec) (k := Rows.uptoSmall) rfl own started (by kernel_rfl) Try.func13
    (OpenSpec.witness (enc := enc) (C := Try.checked) (s := Rows.OpenSpec.upto Rows.storeReadSpec) (k := Rows.uptoSmall) rfl false ⟨#[], #[(.slice none 0 0)], []⟩ 8 (by kernel_rfl) (by kernel_rfl) (by kernel_rfl)
      (x := ([.nil], [], [])) (by kernel_rfl) rfl (by kernel_rfl)) ?_
  intro W base args ds gs before hval hW _ hk _
  exact contract H enc W base args ds gs before hval hW hk
set_option maxHeartbeats 4000000 in
theorem joined : joinedFacts Try.pinned.checked.prog 13 Try.f13 (Rows.OpenSpec.upto Rows.storeReadSpec).bare Rows.storeReadUptoRow = true := by
  unfold joinedFacts
  simp only [Bool.and_eq_true]
  repeat' apply And.intro
  all_goals (as_aux_lemma => kernel_rfl)
theorem over : Rows.storeReadUptoRow.holds Try.pinned (Rows.OpenSpec.upto Rows.storeReadSpec) :=
  OpenClaim.holds_of_cond 13 Try.f13 rfl rfl rfl rfl rfl rfl rfl ⟨rfl, rfl, rfl, rfl, rfl⟩ rfl rfl rfl rfl rfl (by kernel_rfl) Try.func13 joined
    (of_decide_eq_true (by kernel_rfl)) (by unfold Func.isWrapper; first | (rw [if_pos (by decide +kernel)]; kernel_rfl) | (rw [if_neg (by decide +kernel)]; exact ⟨rfl, rfl⟩))
    (fun os started H enc _ F => lifted os started H enc F)
theorem proved : Rows.StoreReadUptoSaid := over
#print axioms proved
end Go.Proofs.Ytlgfffngojlffaa.storeRead
