/- Part 4 of a proof laid in parts; each part's own comment says what it proves and under which conditions. -/
import Derived.Test.YtomjghlaoncpbaaCdP3
import Derived.Test.YtomjghlaoncpbaaRows
import Derived.WalkKit
import Derived.ProofKit
import Derived.OpenShut
import Derived.JoinedCond
/- What an instruction writes, its arms, and where it goes on, by both texts. Conditions: fewer than 2^20 arguments; a place of at most 2^40. -/
set_option linter.unusedSimpArgs false
set_option linter.unusedVariables false
namespace Go.Proofs.Ytomjghlaoncpbaa
open Go.Proofs.YtomjghlaoncpbaaV
set_option maxHeartbeats 400000
set_option maxRecDepth 100000
theorem isEmpty_app {A : Type} (a b : List A) : (a ++ b).isEmpty = (a.isEmpty && b.isEmpty) := by cases a <;> rfl
theorem q_rReads (op a b c : Int) (args : List Int) (nl : Bool) (hl : args.length ≤ 1048576) : Quiet Try.prog 78 [.agg (cIns op a b c args nl)] (ints (readsF op a b args)) := by
  have hasc := ascii_shapes op
  have hsl : (shapesF op).1.length ≤ 2 := by
    refine op_cases (p := fun op => (shapesF op).1.length ≤ 2) op ?_ ?_ ?_ ?_ ?_ ?_ ?_ ?_ ?_ ?_ ?_ ?_ ?_ ?_ ?_ ?_ ?_ ?_ ?_ ?_ ?_ ?_ ?_ ?_ ?_ ?_ ?_ (fun h => ?_)
    all_goals first | (rw [shapes_out h]; decide) | decide
  rw [← reads_same]
  have hsh := q_shapes op
  generalize shapesF op = sh at hasc hsl hsh
  obtain ⟨str, wr, en⟩ := sh
  simp only at hasc hsl ⊢
  refine Quiet.weak fun G => ?_
  refine acall_body (rs := [.tmp 2]) Try.func78 rfl rfl Try.ntmps78 (by kernel_rfl) (Nat.le_of_ble_eq_true rfl) ?_
  refine aw_sr rfl ?_  -- r0 @low.go:44
  simp only [go_sem, reduceIte, Nat.reduceEqDiff, Nat.reduceAdd, Nat.reduceMul, Nat.reduceSub, Nat.reduceLeDiff, Nat.reduceLT, reduceCtorEq]
  intro b1 hb1
  refine aw_box1 hb1 fun B1 hsB h1 => ?_
  refine aw_sr rfl ?_  -- r1 @low.go:45
  simp only [go_sem, reduceIte, Nat.reduceEqDiff, Nat.reduceAdd, Nat.reduceMul, Nat.reduceSub, Nat.reduceLeDiff, Nat.reduceLT, reduceCtorEq]
  refine aw_seq fun K1 hK1 => ?_
  refine aw_sr rfl ?_  -- r2 @low.go:46
  simp only [go_sem, reduceIte, Nat.reduceEqDiff, Nat.reduceAdd, Nat.reduceMul, Nat.reduceSub, Nat.reduceLeDiff, Nat.reduceLT, reduceCtorEq, h1]
  refine goA_q hsh ?_
  simp only [go_sem, reduceIte, Nat.reduceEqDiff, Nat.reduceAdd, Nat.reduceMul, Nat.reduceSub, Nat.reduceLeDiff, Nat.reduceLT, reduceCtorEq, cShape]
  intro bi hbi
  have n1 := ne_fresh h1 hbi
  have hGi := sub_none hsB hbi
  refine aw_box1 hbi fun B2 hs2 hit => ?_
  replace h1 := hs2 _ _ h1
  replace hsB := sub_trans hsB hs2
  refine aw_block ?_  -- 0
  refine aw_lph (S := {s : Nat × Tag × Heap // s.1 ≤ str.length ∧ Rm G s.2.2 1 s.2.1 ∧ Sub G s.2.2 ∧ hget s.2.2 b1 = some (.vars (cIns op a b c args nl)) ∧ hget s.2.2 bi = some (.siter str s.1)}) (fun s => [(1, .ptr b1 0), (3, .sl (((str.take s.1.1).flatMap (letF a b args)).map eI) ((str.take s.1.1).flatMap (letF a b args)).isEmpty s.1.2.1), (10, .ptr bi 0)]) (fun s => s.1.2.2) (fun s => str.length - s.1.1)
    ⟨(0, .full, B2), Nat.zero_le _, Rm.start _ _ _, hsB, h1, hit⟩ ?_ (fun _ _ h => h) ?_
  · simp only [go_sem, reduceIte, Nat.reduceEqDiff, Nat.reduceAdd, Nat.reduceMul, Nat.reduceSub, Nat.reduceLeDiff, Nat.reduceLT, reduceCtorEq]
    rfl
  intro ⟨⟨n, tg, H⟩, hn, hr, hs, h1, hit⟩
  simp only at hn hr hs h1 hit ⊢
  refine aw_sr rfl ?_  -- r3 @low.go:46
  simp only [go_sem, reduceIte, Nat.reduceEqDiff, Nat.reduceAdd, Nat.reduceMul, Nat.reduceSub, Nat.reduceLeDiff, Nat.reduceLT, reduceCtorEq, hit]
  refine goNs_by (fun hlt => ⟨hasc _ (List.getElem_mem hlt), ?_⟩) (fun hlt => ?_)
  · simp only [go_sem, reduceIte, Nat.reduceEqDiff, Nat.reduceAdd, Nat.reduceMul, Nat.reduceSub, Nat.reduceLeDiff, Nat.reduceLT, reduceCtorEq]
    obtain ⟨C, hC⟩ : ∃ C, C = hset H bi (.siter str (n + 1)) := ⟨_, rfl⟩
    have c1 : hget C b1 = some (.vars (cIns op a b c args nl)) := by rw [hC]; exact hset_keep h1 n1
    have ci : hget C bi = some (.siter str (n + 1)) := by rw [hC]; exact hget_hset_self hit
    have cs : Sub G C := by rw [hC]; exact sub_hset_fresh hGi hs
    have cr : Rm G C 1 tg := by rw [hC]; exact hr.hset hit (fun _ _ e => by cases e)
    refine AW.of_hsub (by rw [hC]; exact sub_rfl) (G := C) ?_
    clear hC
    have hfl : (str.take (n + 1)).flatMap (letF a b args) = (str.take n).flatMap (letF a b args) ++ letF a b args str[n] := by
      rw [List.take_succ_eq_append_getElem hlt, List.flatMap_append]; simp
    have hbl : ((str.take n).flatMap (letF a b args)).length ≤ 2 * 1048576 := by
      have h1 : ∀ c, (letF a b args c).length ≤ 1048576 := fun c => by
        unfold letF; split
        · simp
        · split
          · simp
          · exact hl
      match hq : str.take n with
      | [] => simp
      | [x] => simp only [List.flatMap_cons, List.flatMap_nil, List.append_nil]; have := h1 x; omega
      | [x, y] => simp only [List.flatMap_cons, List.flatMap_nil, List.append_nil, List.length_append]; have := h1 x; have := h1 y; omega
      | x :: y :: z :: l =>
        have : (str.take n).length ≤ 2 := by rw [List.length_take]; omega
        rw [hq] at this; simp at this
    refine aw_seq fun K2 hK2 => ?_
    refine aw_if rfl (fun h => ?_) (fun h => by cases h)
    refine aw_skip (hK2 _ _ ?_)
    refine aw_block ?_  -- 1
    refine aw_sr rfl ?_  -- r4 @low.go:46
    simp only [go_sem, reduceIte, Nat.reduceEqDiff, Nat.reduceAdd, Nat.reduceMul, Nat.reduceSub, Nat.reduceLeDiff, Nat.reduceLT, reduceCtorEq]
    refine aw_sr rfl ?_  -- r5 @low.go:47
    simp only [go_sem, reduceIte, Nat.reduceEqDiff, Nat.reduceAdd, Nat.reduceMul, Nat.reduceSub, Nat.reduceLeDiff, Nat.reduceLT, reduceCtorEq]
    refine aw_block ?_  -- 2
    generalize hx : str[n] = x at hfl
    have hxa : ∀ k : Nat, k < 256 → (((x.toNat : Nat) : Int) = (k : Nat) ↔ x = UInt8.ofNat k) := fun k hk => by
      constructor
      · intro e
        have : x.toNat = k := by omega
        rw [← this]; simp
      · intro e; subst e; simp; omega
    refine aw_chain rfl rfl rfl rfl rfl ?_  -- t14 is one of [97]
    refine aw_if rfl (fun h => ?_) (fun h => ?_)
    · have hxx : x = 97 := (hxa 97 (by decide)).1 (by simpa using h)
      have hlet : letF a b args x = [a] := by rw [hxx]; rfl
      rw [hlet] at hfl
      refine aw_rg rfl ?_  -- r8 @low.go:49
      simp only [go_sem, reduceIte, Nat.reduceEqDiff, Nat.reduceAdd, Nat.reduceMul, Nat.reduceSub, Nat.reduceLeDiff, Nat.reduceLT, reduceCtorEq, c1]
      refine goP_rm cr cs ?_ fun t' H' hr' hs' hg => ?_
      · exact ⟨rfl, rfl, by decide, wid_eI _, wid_one rfl, sca_one rfl, by simp only [List.length_map, List.length_append, List.length_cons, List.length_nil, List.length_take, List.length_drop]; omega, by simp only [List.length_map, List.length_append, List.length_cons, List.length_nil, List.length_take, List.length_drop]; omega⟩
      simp only [go_sem, reduceIte, Nat.reduceEqDiff, Nat.reduceAdd, Nat.reduceMul, Nat.reduceSub, Nat.reduceLeDiff, Nat.reduceLT, reduceCtorEq, Bool.and_false]
      refine ⟨⟨(n + 1, t', H'), hlt, hr', hs', hg.vars c1, hg.1 _ _ ci (fun _ _ e => by cases e)⟩, by show str.length - (n + 1) < _; omega, ?_, sub_rfl⟩
      rw [hfl]
      refine ⟨rfl, ?_, rfl⟩
      rw [List.map_append]
      simp [fget, eI]
    refine aw_chain rfl rfl rfl rfl rfl ?_  -- t14 is one of [98]
    refine aw_if rfl (fun h => ?_) (fun h => ?_)
    · have hxx : x = 98 := (hxa 98 (by decide)).1 (by simpa using h)
      have hlet : letF a b args x = [b] := by rw [hxx]; rfl
      rw [hlet] at hfl
      refine aw_rg rfl ?_  -- r10
      simp only [go_sem, reduceIte, Nat.reduceEqDiff, Nat.reduceAdd, Nat.reduceMul, Nat.reduceSub, Nat.reduceLeDiff, Nat.reduceLT, reduceCtorEq, c1]
      refine goP_rm cr cs ?_ fun t' H' hr' hs' hg => ?_
      · exact ⟨rfl, rfl, by decide, wid_eI _, wid_one rfl, sca_one rfl, by simp only [List.length_map, List.length_append, List.length_cons, List.length_nil, List.length_take, List.length_drop]; omega, by simp only [List.length_map, List.length_append, List.length_cons, List.length_nil, List.length_take, List.length_drop]; omega⟩
      simp only [go_sem, reduceIte, Nat.reduceEqDiff, Nat.reduceAdd, Nat.reduceMul, Nat.reduceSub, Nat.reduceLeDiff, Nat.reduceLT, reduceCtorEq, Bool.and_false]
      refine ⟨⟨(n + 1, t', H'), hlt, hr', hs', hg.vars c1, hg.1 _ _ ci (fun _ _ e => by cases e)⟩, by show str.length - (n + 1) < _; omega, ?_, sub_rfl⟩
      rw [hfl]
      refine ⟨rfl, ?_, rfl⟩
      rw [List.map_append]
      simp [fget, eI]
    · rename_i h97
      have hlet : letF a b args x = args := by
        unfold letF
        rw [if_neg, if_neg]
        · intro e; rw [(hxa 98 (by decide)).2 e] at h; simp at h
        · intro e; rw [(hxa 97 (by decide)).2 e] at h97; simp at h97
      rw [hlet] at hfl
      refine aw_rg rfl ?_  -- r6
      simp only [go_sem, reduceIte, Nat.reduceEqDiff, Nat.reduceAdd, Nat.reduceMul, Nat.reduceSub, Nat.reduceLeDiff, Nat.reduceLT, reduceCtorEq, c1]
      refine goP_rm cr cs ?_ fun t' H' hr' hs' hg => ?_
      · exact ⟨rfl, rfl, by decide, wid_eI _, wid_eI _, sca_eI _, by simp only [List.length_map, List.length_append, List.length_cons, List.length_nil, List.length_take, List.length_drop]; omega, by simp only [List.length_map, List.length_append, List.length_cons, List.length_nil, List.length_take, List.length_drop]; omega⟩
      simp only [go_sem, reduceIte, Nat.reduceEqDiff, Nat.reduceAdd, Nat.reduceMul, Nat.reduceSub, Nat.reduceLeDiff, Nat.reduceLT, reduceCtorEq]
      refine ⟨⟨(n + 1, t', H'), hlt, hr', hs', hg.vars c1, hg.1 _ _ ci (fun _ _ e => by cases e)⟩, by show str.length - (n + 1) < _; omega, ?_, sub_rfl⟩
      rw [hfl]
      refine ⟨rfl, ?_, rfl⟩
      rw [List.map_append]
      simp [fget, isEmpty_app]
  · have hend : n = str.length := by omega
    subst hend
    simp only [go_sem, reduceIte, Nat.reduceEqDiff, Nat.reduceAdd, Nat.reduceMul, Nat.reduceSub, Nat.reduceLeDiff, Nat.reduceLT, reduceCtorEq]
    refine aw_seq fun K2 hK2 => ?_
    refine aw_if (b := false) rfl (fun h => by cases h) (fun h => ?_)
    refine aw_exit ?_  -- 0
    refine hK1 _ _ ?_
    refine aw_sr rfl ?_  -- r11 @low.go:56
    simp only [go_sem, reduceIte, Nat.reduceEqDiff, Nat.reduceAdd, Nat.reduceMul, Nat.reduceSub, Nat.reduceLeDiff, Nat.reduceLT, reduceCtorEq, List.take_length]
    exact aw_ret ⟨trivial, _, rfl, Vle.untag, hs⟩
/-! ### Writes -/
def writesB (op : Int) : Bool := ([1, 2, 5, 6, 7, 8, 9, 10, 12, 14, 20, 21] : List Int).any (fun v => decide (op = v))
theorem writes_same (op : Int) : (shapesF op).2.1 = writesB op := by
  refine op_cases (p := fun op => (shapesF op).2.1 = writesB op) op ?_ ?_ ?_ ?_ ?_ ?_ ?_ ?_ ?_ ?_ ?_ ?_ ?_ ?_ ?_ ?_ ?_ ?_ ?_ ?_ ?_ ?_ ?_ ?_ ?_ ?_ ?_ (fun h => ?_)
  all_goals first | (rw [shapes_out h]; exact (rd_out (vs := [1, 2, 5, 6, 7, 8, 9, 10, 12, 14, 20, 21]) rfl h).symm) | decide
def writesF (op a : Int) : Int := if writesB op = true then a else -1
theorem q_writes (op : Int) : Quiet Try.prog 127 [.int .i64 op] (.bool (writesB op)) := by
  refine Quiet.weak fun G => ?_
  refine acall_body (rs := [.tmp 2]) Try.func127 rfl rfl Try.ntmps127 (by kernel_rfl) (Nat.le_of_ble_eq_true rfl) ?_
  refine aw_sr rfl ?_  -- r0 @code.go:154
  simp only [go_sem, reduceIte, Nat.reduceEqDiff, Nat.reduceAdd, Nat.reduceMul, Nat.reduceSub, Nat.reduceLeDiff, Nat.reduceLT, reduceCtorEq]
  refine aw_seq fun K1 hK1 => ?_
  refine aw_sr rfl ?_  -- r1 @code.go:155
  simp only [go_sem, reduceIte, Nat.reduceEqDiff, Nat.reduceAdd, Nat.reduceMul, Nat.reduceSub, Nat.reduceLeDiff, Nat.reduceLT, reduceCtorEq]
  refine aw_block ?_  -- 0
  refine aw_chain rfl rfl rfl rfl rfl ?_
  refine aw_if rfl (fun h => ?_) (fun h => ?_)
  · refine aw_sr rfl ?_  -- r14 @code.go:157
    simp only [go_sem, reduceIte, Nat.reduceEqDiff, Nat.reduceAdd, Nat.reduceMul, Nat.reduceSub, Nat.reduceLeDiff, Nat.reduceLT, reduceCtorEq]
    refine aw_ret ⟨trivial, _, rfl, ?_, sub_rfl⟩
    rw [show writesB op = true from h]; exact Vle.refl _
  refine aw_skip (hK1 _ _ ?_)
  refine aw_sr rfl ?_  -- r15 @code.go:159
  simp only [go_sem, reduceIte, Nat.reduceEqDiff, Nat.reduceAdd, Nat.reduceMul, Nat.reduceSub, Nat.reduceLeDiff, Nat.reduceLT, reduceCtorEq]
  refine aw_ret ⟨trivial, _, rfl, ?_, sub_rfl⟩
  rw [show writesB op = false from h]; exact Vle.refl _
theorem q_cWrites (op a b c : Int) (args : List Int) (nl : Bool) : Quiet Try.prog 79 [.agg (cIns op a b c args nl)] (.int .i64 (writesF op a)) := by
  refine Quiet.weak fun G => ?_
  refine acall_body (rs := [.tmp 2]) Try.func79 rfl rfl Try.ntmps79 (by kernel_rfl) (Nat.le_of_ble_eq_true rfl) ?_
  refine aw_sr rfl ?_
  simp only [go_sem, reduceIte, Nat.reduceEqDiff, Nat.reduceAdd, Nat.reduceMul, Nat.reduceSub, Nat.reduceLeDiff, Nat.reduceLT, reduceCtorEq]
  intro b1 hb1
  refine aw_box1 hb1 fun B1 hsB h1 => ?_
  refine aw_seq fun K1 hK1 => ?_
  refine aw_sr rfl ?_
  simp only [go_sem, reduceIte, Nat.reduceEqDiff, Nat.reduceAdd, Nat.reduceMul, Nat.reduceSub, Nat.reduceLeDiff, Nat.reduceLT, reduceCtorEq, h1]
  refine goA_q (q_writes op) ?_
  simp only [go_sem, reduceIte, Nat.reduceEqDiff, Nat.reduceAdd, Nat.reduceMul, Nat.reduceSub, Nat.reduceLeDiff, Nat.reduceLT, reduceCtorEq]
  refine aw_if rfl (fun h => ?_) (fun h => ?_)
  · refine aw_sr rfl ?_
    simp only [go_sem, reduceIte, Nat.reduceEqDiff, Nat.reduceAdd, Nat.reduceMul, Nat.reduceSub, Nat.reduceLeDiff, Nat.reduceLT, reduceCtorEq, h1]
    refine aw_ret ⟨trivial, _, rfl, ?_, hsB⟩
    rw [show writesF op a = a from if_pos h]; exact Vle.refl _
  refine aw_skip (hK1 _ _ ?_)
  refine aw_sr rfl ?_
  simp only [go_sem, reduceIte, Nat.reduceEqDiff, Nat.reduceAdd, Nat.reduceMul, Nat.reduceSub, Nat.reduceLeDiff, Nat.reduceLT, reduceCtorEq]
  refine aw_ret ⟨trivial, _, rfl, ?_, hsB⟩
  rw [show writesF op a = -1 from if_neg (no_if h)]; exact Vle.refl _
theorem q_rWrites (op a b c : Int) (args : List Int) (nl : Bool) : Quiet Try.prog 80 [.agg (cIns op a b c args nl)] (.int .i64 (writesF op a)) := by
  refine Quiet.weak fun G => ?_
  refine acall_body (rs := [.tmp 2]) Try.func80 rfl rfl Try.ntmps80 (by kernel_rfl) (Nat.le_of_ble_eq_true rfl) ?_
  refine aw_sr rfl ?_
  simp only [go_sem, reduceIte, Nat.reduceEqDiff, Nat.reduceAdd, Nat.reduceMul, Nat.reduceSub, Nat.reduceLeDiff, Nat.reduceLT, reduceCtorEq]
  intro b1 hb1
  refine aw_box1 hb1 fun B1 hsB h1 => ?_
  refine aw_seq fun K1 hK1 => ?_
  refine aw_sr rfl ?_
  simp only [go_sem, reduceIte, Nat.reduceEqDiff, Nat.reduceAdd, Nat.reduceMul, Nat.reduceSub, Nat.reduceLeDiff, Nat.reduceLT, reduceCtorEq, h1]
  refine goA_q (q_shapes op) ?_
  simp only [go_sem, reduceIte, Nat.reduceEqDiff, Nat.reduceAdd, Nat.reduceMul, Nat.reduceSub, Nat.reduceLeDiff, Nat.reduceLT, reduceCtorEq, cShape, writes_same]
  refine aw_if rfl (fun h => ?_) (fun h => ?_)
  · refine aw_sr rfl ?_
    simp only [go_sem, reduceIte, Nat.reduceEqDiff, Nat.reduceAdd, Nat.reduceMul, Nat.reduceSub, Nat.reduceLeDiff, Nat.reduceLT, reduceCtorEq, h1]
    refine aw_ret ⟨trivial, _, rfl, ?_, hsB⟩
    rw [show writesF op a = a from if_pos h]; exact Vle.refl _
  refine aw_skip (hK1 _ _ ?_)
  refine aw_sr rfl ?_
  simp only [go_sem, reduceIte, Nat.reduceEqDiff, Nat.reduceAdd, Nat.reduceMul, Nat.reduceSub, Nat.reduceLeDiff, Nat.reduceLT, reduceCtorEq]
  refine aw_ret ⟨trivial, _, rfl, ?_, hsB⟩
  rw [show writesF op a = -1 from if_neg (no_if h)]; exact Vle.refl _
/-! ### Arms -/
def ars (xs : List Ar) : V := .sl (xs.map eAr) xs.isEmpty .no
def armsF (op : Int) (args : List Int) : List Ar := if op = 11 then (gatF args).getD [] else if op = 16 then (match args with | [] => [] | _ :: l => (gatF l).getD []) else []
theorem gatV_fst (no yes : V) (x : Option (List Ar)) : ∃ y, gatV no yes x = .tup [ars (x.getD []), y] := by
  cases x with
  | none => exact ⟨no, rfl⟩
  | some l => exact ⟨yes, rfl⟩
theorem q_cArms (op a b c : Int) (args : List Int) (nl : Bool) (hl : args.length ≤ 1048576) : Quiet Try.prog 81 [.agg (cIns op a b c args nl)] (ars (armsF op args)) := by
  refine Quiet.weak fun G => ?_
  refine acall_body (rs := [.tmp 2]) Try.func81 rfl rfl Try.ntmps81 (by kernel_rfl) (Nat.le_of_ble_eq_true rfl) ?_
  refine aw_sr rfl ?_  -- r0 @code.go:180
  simp only [go_sem, reduceIte, Nat.reduceEqDiff, Nat.reduceAdd, Nat.reduceMul, Nat.reduceSub, Nat.reduceLeDiff, Nat.reduceLT, reduceCtorEq]
  intro b1 hb1
  refine aw_box1 hb1 fun B1 hsB h1 => ?_
  refine aw_sr rfl ?_  -- r1 @code.go:181
  simp only [go_sem, reduceIte, Nat.reduceEqDiff, Nat.reduceAdd, Nat.reduceMul, Nat.reduceSub, Nat.reduceLeDiff, Nat.reduceLT, reduceCtorEq, h1]
  refine aw_mid (fun f' G' => ∃ l nl' tg, l.length ≤ 1048576 ∧ armsF op args = (gatF l).getD [] ∧ FSub [(3, .sl (l.map eI) nl' tg)] f' ∧ G' = B1) ?_ ?_
  · -- 2 ways
    refine aw_sr rfl ?_  -- r2 @code.go:182
    simp only [go_sem, reduceIte, Nat.reduceEqDiff, Nat.reduceAdd, Nat.reduceMul, Nat.reduceSub, Nat.reduceLeDiff, Nat.reduceLT, reduceCtorEq, h1]
    refine aw_block ?_  -- 0
    refine aw_chain rfl rfl rfl rfl rfl ?_  -- t9 is one of [11]
    refine aw_if rfl (fun h => ?_) (fun h => ?_)
    · have h : op = 11 := by simpa using h
      exact aw_skip ⟨args, nl, .no, hl, by unfold armsF; rw [if_pos h], rfl, rfl⟩
    · have h11 : ¬ op = 11 := by simpa using h
      refine aw_chain rfl rfl rfl rfl rfl ?_  -- t9 is one of [16]
      refine aw_if rfl (fun h => ?_) (fun h => ?_)
      · have h16 : op = 16 := by simpa using h
        refine aw_seq fun K1 hK1 => ?_
        refine aw_sr rfl ?_  -- r6 @code.go:185
        simp only [go_sem, reduceIte, Nat.reduceEqDiff, Nat.reduceAdd, Nat.reduceMul, Nat.reduceSub, Nat.reduceLeDiff, Nat.reduceLT, reduceCtorEq]
        cases args with
        | nil =>
          refine aw_if rfl (fun h => ?_) (fun h => by simp at h)
          refine aw_sr rfl ?_  -- r7 @code.go:186
          simp only [go_sem, reduceIte, Nat.reduceEqDiff, Nat.reduceAdd, Nat.reduceMul, Nat.reduceSub, Nat.reduceLeDiff, Nat.reduceLT, reduceCtorEq]
          refine aw_ret ⟨trivial, _, rfl, ?_, hsB⟩
          have : armsF op [] = [] := by unfold armsF; rw [if_neg h11, if_pos h16]
          rw [this]; exact Vle.untag
        | cons x l =>
          refine aw_if rfl (fun h => by simp at h; omega) (fun h => ?_)
          refine aw_skip (hK1 _ _ ?_)
          refine aw_rg rfl ?_  -- r8 @code.go:188
          simp only [go_sem, reduceIte, Nat.reduceEqDiff, Nat.reduceAdd, Nat.reduceMul, Nat.reduceSub, Nat.reduceLeDiff, Nat.reduceLT, reduceCtorEq, List.map_cons, toNat1, take_map_len]
          simp only [List.length_cons] at hl
          refine ⟨⟨⟨by omega, by omega⟩, wid_eI (x :: l)⟩, l, nl, _, by omega, ?_, rfl, rfl⟩
          unfold armsF; rw [if_neg h11, if_pos h16]
      · have h16 : ¬ op = 16 := by simpa using h
        refine aw_sr rfl ?_  -- r3 @code.go:190
        simp only [go_sem, reduceIte, Nat.reduceEqDiff, Nat.reduceAdd, Nat.reduceMul, Nat.reduceSub, Nat.reduceLeDiff, Nat.reduceLT, reduceCtorEq]
        refine aw_ret ⟨trivial, _, rfl, ?_, hsB⟩
        have : armsF op args = [] := by unfold armsF; rw [if_neg h11, if_neg h16]
        rw [this]; exact Vle.untag
  intro f' G' ⟨l, nl', tg, hll, hE, hf, hg⟩
  rw [hg, hE]
  refine AW.of_fsub hf ?_
  obtain ⟨y, hy⟩ := gatV_fst (.int .i64 3) (.int .i64 0) (gatF l)
  have hq := q_Gather l nl' tg hll
  rw [hy] at hq
  refine aw_sr rfl ?_  -- r9 @code.go:192
  simp only [go_sem, reduceIte, Nat.reduceEqDiff, Nat.reduceAdd, Nat.reduceMul, Nat.reduceSub, Nat.reduceLeDiff, Nat.reduceLT, reduceCtorEq]
  refine goA_q hq ?_
  simp only [go_sem, reduceIte, Nat.reduceEqDiff, Nat.reduceAdd, Nat.reduceMul, Nat.reduceSub, Nat.reduceLeDiff, Nat.reduceLT, reduceCtorEq]
  refine aw_sr rfl ?_  -- r10 @code.go:193
  simp only [go_sem, reduceIte, Nat.reduceEqDiff, Nat.reduceAdd, Nat.reduceMul, Nat.reduceSub, Nat.reduceLeDiff, Nat.reduceLT, reduceCtorEq]
  exact aw_ret ⟨trivial, _, rfl, Vle.refl _, hsB⟩
theorem q_rArms (op a b c : Int) (args : List Int) (nl : Bool) (hl : args.length ≤ 1048576) : Quiet Try.prog 82 [.agg (cIns op a b c args nl)] (ars (armsF op args)) := by
  refine Quiet.weak fun G => ?_
  refine acall_body (rs := [.tmp 2]) Try.func82 rfl rfl Try.ntmps82 (by kernel_rfl) (Nat.le_of_ble_eq_true rfl) ?_
  refine aw_sr rfl ?_  -- r0 @low.go:85
  simp only [go_sem, reduceIte, Nat.reduceEqDiff, Nat.reduceAdd, Nat.reduceMul, Nat.reduceSub, Nat.reduceLeDiff, Nat.reduceLT, reduceCtorEq]
  intro b1 hb1
  refine aw_box1 hb1 fun B1 hsB h1 => ?_
  refine aw_sr rfl ?_  -- r1 @low.go:86
  simp only [go_sem, reduceIte, Nat.reduceEqDiff, Nat.reduceAdd, Nat.reduceMul, Nat.reduceSub, Nat.reduceLeDiff, Nat.reduceLT, reduceCtorEq, h1]
  refine aw_mid (fun f' G' => ∃ l nl' tg, l.length ≤ 1048576 ∧ armsF op args = (gatF l).getD [] ∧ FSub [(3, .sl (l.map eI) nl' tg)] f' ∧ G' = B1) ?_ ?_
  · -- 2 ways
    refine aw_sr rfl ?_  -- r2 @low.go:87
    simp only [go_sem, reduceIte, Nat.reduceEqDiff, Nat.reduceAdd, Nat.reduceMul, Nat.reduceSub, Nat.reduceLeDiff, Nat.reduceLT, reduceCtorEq, h1]
    refine aw_if rfl (fun h => ?_) (fun h => ?_)
    · have hh : op = 16 ∧ 0 < args.length := by simpa using h
      obtain ⟨h16, hpos⟩ := hh
      cases args with
      | nil => simp at hpos
      | cons x l =>
        refine aw_rg rfl ?_  -- r3 @low.go:88
        simp only [go_sem, reduceIte, Nat.reduceEqDiff, Nat.reduceAdd, Nat.reduceMul, Nat.reduceSub, Nat.reduceLeDiff, Nat.reduceLT, reduceCtorEq, List.map_cons, toNat1, take_map_len]
        simp only [List.length_cons] at hl
        refine ⟨⟨⟨by omega, by omega⟩, wid_eI (x :: l)⟩, l, nl, _, by omega, ?_, rfl, rfl⟩
        unfold armsF; rw [if_neg (by omega), if_pos h16]
    · have hh : ¬ (op = 16 ∧ 0 < args.length) := by
        intro ⟨q1, q2⟩; simp [q1] at h; rw [h] at q2; simp at q2
      refine aw_sr rfl ?_  -- r4 @low.go:89
      simp only [go_sem, reduceIte, Nat.reduceEqDiff, Nat.reduceAdd, Nat.reduceMul, Nat.reduceSub, Nat.reduceLeDiff, Nat.reduceLT, reduceCtorEq, h1]
      refine aw_if rfl (fun h => ?_) (fun h => ?_)
      · have h11 : ¬ op = 11 := by simpa using h
        refine aw_sr rfl ?_  -- r5 @low.go:90
        simp only [go_sem, reduceIte, Nat.reduceEqDiff, Nat.reduceAdd, Nat.reduceMul, Nat.reduceSub, Nat.reduceLeDiff, Nat.reduceLT, reduceCtorEq]
        refine aw_ret ⟨trivial, _, rfl, ?_, hsB⟩
        have : armsF op args = [] := by
          unfold armsF
          rw [if_neg h11]
          split
          · rename_i h16
            cases args with
            | nil => rfl
            | cons x l => exact absurd ⟨h16, by simp⟩ hh
          · rfl
        rw [this]; exact Vle.untag
      · have h11 : op = 11 := by simpa using h
        exact aw_skip ⟨args, nl, .no, hl, by unfold armsF; rw [if_pos h11], rfl, rfl⟩
  intro f' G' ⟨l, nl', tg, hll, hE, hf, hg⟩
  rw [hg, hE]
  refine AW.of_fsub hf ?_
  obtain ⟨y, hy⟩ := gatV_fst (.bool false) (.bool true) (gatF l)
  have hq := q_Split l nl' tg hll
  rw [hy] at hq
  refine aw_sr rfl ?_  -- r6 @low.go:92
  simp only [go_sem, reduceIte, Nat.reduceEqDiff, Nat.reduceAdd, Nat.reduceMul, Nat.reduceSub, Nat.reduceLeDiff, Nat.reduceLT, reduceCtorEq]
  refine goA_q hq ?_
  simp only [go_sem, reduceIte, Nat.reduceEqDiff, Nat.reduceAdd, Nat.reduceMul, Nat.reduceSub, Nat.reduceLeDiff, Nat.reduceLT, reduceCtorEq]
  refine aw_sr rfl ?_  -- r7 @low.go:93
  simp only [go_sem, reduceIte, Nat.reduceEqDiff, Nat.reduceAdd, Nat.reduceMul, Nat.reduceSub, Nat.reduceLeDiff, Nat.reduceLT, reduceCtorEq]
  exact aw_ret ⟨trivial, _, rfl, Vle.refl _, hsB⟩
/-! ### Next -/
def firstA (op : Int) (args : List Int) : List Int := match args with | [] => [] | x :: _ => if op = 16 ∧ 0 ≤ x then [x] else []
def nextF (op a b c at_ : Int) (args : List Int) : List Int :=
  if op = 3 then [a] else if op = 4 then [at_ + 1, b] else if op = 27 then [at_ + 1, c]
  else if op = 11 ∨ op = 16 then firstA op args ++ (armsF op args).map (·.1)
  else if op = 15 ∨ op = 17 ∨ op = 18 ∨ op = 25 then [] else [at_ + 1]
theorem gat_len : ∀ (n : Nat) (l : List Int) (x : List Ar), gatN n l = some x → x.length ≤ l.length
  | n, [], x, h => by cases n <;> (simp [gatN] at h; subst h; simp)
  | n, [_], x, h => by cases n <;> simp [gatN] at h
  | 0, _ :: _ :: _, x, h => by simp [gatN] at h
  | n + 1, a :: k :: l, x, h => by
    rw [gatN] at h
    split at h
    · cases h
    · rw [Option.map_eq_some_iff] at h
      obtain ⟨y, hy, rfl⟩ := h
      have := gat_len n _ y hy
      rw [List.length_drop] at this
      simp only [List.length_cons]
      omega
theorem arms_len (op : Int) (args : List Int) : (armsF op args).length ≤ args.length := by
  have key : ∀ l : List Int, ((gatF l).getD []).length ≤ l.length := fun l => by
    cases h : gatF l with
    | none => simp
    | some x => exact gat_len _ _ _ h
  unfold armsF
  split
  · exact key args
  · split
    · split
      · simp
      · rename_i x l; have := key l; simp only [List.length_cons]; omega
    · simp
theorem first_len (op : Int) (args : List Int) : (firstA op args).length ≤ 1 := by
  unfold firstA; split
  · simp
  · split <;> simp
end Go.Proofs.Ytomjghlaoncpbaa

/- Where an instruction goes on, by both texts. Conditions: fewer than 2^20 arguments; a place of at most 2^40. -/
set_option linter.unusedSimpArgs false
set_option linter.unusedVariables false
namespace Go.Proofs.Ytomjghlaoncpbaa
open Go.Proofs.YtomjghlaoncpbaaV
set_option maxHeartbeats 400000
set_option maxRecDepth 100000
theorem q_cNext (op a b c at_ : Int) (args : List Int) (nl : Bool) (hl : args.length ≤ 1048576) (h0 : 0 ≤ at_) (h1 : at_ ≤ 1099511627776) : Quiet Try.prog 83 [.agg (cIns op a b c args nl), .int .i64 at_] (ints (nextF op a b c at_ args)) := by
  have hw : IntKind.i64.wrap (at_ + 1) = at_ + 1 := wrap64 (by omega) (by omega)
  have hal := arms_len op args
  have hfl := first_len op args
  refine Quiet.weak fun G => ?_
  refine acall_body (rs := [.tmp 4]) Try.func83 rfl rfl Try.ntmps83 (by kernel_rfl) (Nat.le_of_ble_eq_true rfl) ?_
  refine aw_sr rfl ?_  -- r0 @code.go:197
  simp only [go_sem, reduceIte, Nat.reduceEqDiff, Nat.reduceAdd, Nat.reduceMul, Nat.reduceSub, Nat.reduceLeDiff, Nat.reduceLT, reduceCtorEq]
  intro b2 hb2
  refine aw_box1 hb2 fun B1 hsB h2 => ?_
  refine aw_seq fun K1 hK1 => ?_
  refine aw_sr rfl ?_  -- r1 @code.go:198
  simp only [go_sem, reduceIte, Nat.reduceEqDiff, Nat.reduceAdd, Nat.reduceMul, Nat.reduceSub, Nat.reduceLeDiff, Nat.reduceLT, reduceCtorEq, h2]
  refine aw_block ?_  -- 0
  refine aw_chain rfl rfl rfl rfl rfl ?_  -- t9 is one of [3]
  refine aw_if rfl (fun h => ?_) (fun h => ?_)
  · have h : op = 3 := by simpa using h
    refine aw_sr rfl ?_  -- r3 @code.go:200
    simp only [go_sem, reduceIte, Nat.reduceEqDiff, Nat.reduceAdd, Nat.reduceMul, Nat.reduceSub, Nat.reduceLeDiff, Nat.reduceLT, reduceCtorEq, h2]
    refine aw_ret ⟨trivial, _, rfl, ?_, hsB⟩
    unfold nextF; rw [if_pos h]; exact Vle.untag
  have k3 : ¬ op = 3 := by simpa using h
  refine aw_chain rfl rfl rfl rfl rfl ?_  -- t9 is one of [4]
  refine aw_if rfl (fun h => ?_) (fun h => ?_)
  · have h : op = 4 := by simpa using h
    refine aw_sr rfl ?_  -- r5 @code.go:202
    simp only [go_sem, reduceIte, Nat.reduceEqDiff, Nat.reduceAdd, Nat.reduceMul, Nat.reduceSub, Nat.reduceLeDiff, Nat.reduceLT, reduceCtorEq, h2, hw]
    refine aw_ret ⟨trivial, _, rfl, ?_, hsB⟩
    unfold nextF; rw [if_neg k3, if_pos h]; exact Vle.untag
  have k4 : ¬ op = 4 := by simpa using h
  refine aw_chain rfl rfl rfl rfl rfl ?_  -- t9 is one of [27]
  refine aw_if rfl (fun h => ?_) (fun h => ?_)
  · have h : op = 27 := by simpa using h
    refine aw_sr rfl ?_  -- r7 @code.go:204
    simp only [go_sem, reduceIte, Nat.reduceEqDiff, Nat.reduceAdd, Nat.reduceMul, Nat.reduceSub, Nat.reduceLeDiff, Nat.reduceLT, reduceCtorEq, h2, hw]
    refine aw_ret ⟨trivial, _, rfl, ?_, hsB⟩
    unfold nextF; rw [if_neg k3, if_neg k4, if_pos h]; exact Vle.untag
  have k27 : ¬ op = 27 := by simpa using h
  refine aw_chain rfl rfl rfl rfl rfl ?_  -- t9 is one of [11, 16]
  refine aw_if rfl (fun h => ?_) (fun h => ?_)
  · have hm : op = 11 ∨ op = 16 := by simpa using h
    have hE : nextF op a b c at_ args = firstA op args ++ (armsF op args).map (·.1) := by unfold nextF; rw [if_neg k3, if_neg k4, if_neg k27, if_pos hm]
    rw [hE]
    refine aw_sr rfl ?_  -- r10 @code.go:206
    simp only [go_sem, reduceIte, Nat.reduceEqDiff, Nat.reduceAdd, Nat.reduceMul, Nat.reduceSub, Nat.reduceLeDiff, Nat.reduceLT, reduceCtorEq]
    refine aw_mid (fun f' G' => ∃ tg, Rm G G' 1 tg ∧ Sub G G' ∧ hget G' b2 = some (.vars (cIns op a b c args nl)) ∧ FSub [(5, .sl ((firstA op args).map eI) (firstA op args).isEmpty tg), (2, .ptr b2 0)] f') ?_ ?_
    · -- 2 ways
      refine aw_srq [(0,true),(1,true),(2,true),(3,true),(4,true),(5,true),(6,true),(7,true),(8,true),(9,true),(10,true),(11,true),(12,true),(13,true),(14,true),(15,true)] rfl rfl ?_  -- r11 @code.go:207
      cases args with
      | nil =>
        simp only [go_sem, reduceIte, Nat.reduceEqDiff, Nat.reduceAdd, Nat.reduceMul, Nat.reduceSub, Nat.reduceLeDiff, Nat.reduceLT, reduceCtorEq, h2, List.map_nil, show decide ((0 : Int) < ((0 : Nat) : Int)) = false from rfl, Bool.and_false, Bool.false_and, Bool.false_eq_true, false_implies, true_and]
        refine aw_if (b := false) rfl (fun h => by cases h) (fun h => ?_)
        exact aw_skip ⟨.full, Rm.start _ _ _, hsB, h2, rfl, rfl⟩
      | cons x l =>
        have hpos : decide ((0 : Int) < ((l.length + 1 : Nat) : Int)) = true := decide_eq_true (by omega)
        simp only [List.length_cons] at hl
        simp only [go_sem, reduceIte, Nat.reduceEqDiff, Nat.reduceAdd, Nat.reduceMul, Nat.reduceSub, Nat.reduceLeDiff, Nat.reduceLT, reduceCtorEq, h2, List.map_cons, hpos, Bool.and_true, Int.toNat_zero, List.getD_cons_zero, eI]
        refine ⟨fun _ => ⟨by omega, by omega, wid_eI (x :: l)⟩, ?_⟩
        refine aw_if rfl (fun h => ?_) (fun h => ?_)
        · have hh : op = 16 ∧ 0 ≤ x := by simpa using h
          have hF : firstA op (x :: l) = [x] := if_pos hh
          refine aw_rg rfl ?_  -- r12 @code.go:208
          simp only [go_sem, reduceIte, Nat.reduceEqDiff, Nat.reduceAdd, Nat.reduceMul, Nat.reduceSub, Nat.reduceLeDiff, Nat.reduceLT, reduceCtorEq, h2, List.map_cons, Int.toNat_zero, List.getD_cons_zero, eI]
          refine ⟨⟨by omega, by omega, wid_eI (x :: l)⟩, ?_⟩
          refine goP_rm (G := G) (Rm.start _ _ _) hsB ?_ fun t1 H1 hr1 hs1 hg1 => ?_
          · exact ⟨rfl, rfl, by decide, by simp [wid], wid_one rfl, sca_one rfl, by simp only [List.length_map, List.length_append, List.length_cons, List.length_nil, List.length_take, List.length_drop]; omega, by simp only [List.length_map, List.length_append, List.length_cons, List.length_nil, List.length_take, List.length_drop]; omega⟩
          simp only [go_sem, reduceIte, Nat.reduceEqDiff, Nat.reduceAdd, Nat.reduceMul, Nat.reduceSub, Nat.reduceLeDiff, Nat.reduceLT, reduceCtorEq, List.nil_append, Bool.and_false]
          rw [hF]
          exact ⟨t1, hr1, hs1, hg1.vars h2, rfl, rfl⟩
        · have hh : ¬ (op = 16 ∧ 0 ≤ x) := by
            intro ⟨q1, q2⟩; rw [decide_eq_true q1, decide_eq_true q2] at h; cases h
          have hF : firstA op (x :: l) = [] := if_neg hh
          rw [hF]
          exact aw_skip ⟨.full, Rm.start _ _ _, hsB, h2, rfl, rfl⟩
    intro f' G' ⟨tg, hr, hs, h2, hf⟩
    refine AW.of_fsub hf ?_
    refine aw_seq fun K2 hK2 => ?_
    refine aw_sr rfl ?_  -- r13 @code.go:210
    simp only [go_sem, reduceIte, Nat.reduceEqDiff, Nat.reduceAdd, Nat.reduceMul, Nat.reduceSub, Nat.reduceLeDiff, Nat.reduceLT, reduceCtorEq, h2]
    refine goA_q (q_cArms op a b c args nl hl) ?_
    simp only [go_sem, reduceIte, Nat.reduceEqDiff, Nat.reduceAdd, Nat.reduceMul, Nat.reduceSub, Nat.reduceLeDiff, Nat.reduceLT, reduceCtorEq, ars]
    generalize armsF op args = as_ at *
    refine aw_range as_.length (S := Tag × Heap) (fun i st => [(5, .sl ((firstA op args ++ (as_.take i).map (·.1)).map eI) (firstA op args ++ (as_.take i).map (·.1)).isEmpty st.1), (56, .sl (as_.map eAr) as_.isEmpty .no)]) (fun _ st => st.2) (fun i st => Rm G st.2 1 st.1 ∧ Sub G st.2) (tg, G') (by omega) ?_ (fun _ _ h => h) ⟨hr, hs⟩ rfl (fun _ _ => rfl) ?_ ?_ (by decide)
    · simp only [go_sem, reduceIte, Nat.reduceEqDiff, Nat.reduceAdd, Nat.reduceMul, Nat.reduceSub, Nat.reduceLeDiff, Nat.reduceLT, reduceCtorEq, Int.natCast_zero, List.take_zero, List.map_nil, List.append_nil]
    · intro i ⟨t2, H⟩ hi ⟨hr, hs⟩
      simp only at hr hs ⊢
      refine aw_sr rfl ?_  -- r15 @code.go:210
      simp only [go_sem, reduceIte, Nat.reduceEqDiff, Nat.reduceAdd, Nat.reduceMul, Nat.reduceSub, Nat.reduceLeDiff, Nat.reduceLT, reduceCtorEq, getD_map hi, eAr]
      refine ⟨⟨by omega, by omega, wid_eAr _⟩, ?_⟩
      intro b7 hb7
      refine aw_box1 hb7 fun B2 hs2 h7 => ?_
      refine aw_rg rfl ?_  -- r16 @code.go:211
      simp only [go_sem, reduceIte, Nat.reduceEqDiff, Nat.reduceAdd, Nat.reduceMul, Nat.reduceSub, Nat.reduceLeDiff, Nat.reduceLT, reduceCtorEq, h7]
      refine goP_rm (hr.sub hs2) (sub_trans hs hs2) ?_ fun t' H' hr' hs' hg => ?_
      · exact ⟨rfl, rfl, by decide, wid_eI _, wid_one rfl, sca_one rfl, by simp only [List.length_map, List.length_append, List.length_cons, List.length_nil, List.length_take, List.length_drop]; omega, by simp only [List.length_map, List.length_append, List.length_cons, List.length_nil, List.length_take, List.length_drop]; omega⟩
      simp only [go_sem, reduceIte, Nat.reduceEqDiff, Nat.reduceAdd, Nat.reduceMul, Nat.reduceSub, Nat.reduceLeDiff, Nat.reduceLT, reduceCtorEq, Bool.and_false]
      refine ⟨(t', H'), ⟨hr', hs'⟩, ?_, sub_rfl⟩
      have happ : (firstA op args ++ (as_.take (i + 1)).map (·.1)) = (firstA op args ++ (as_.take i).map (·.1)) ++ [as_[i].1] := by
        rw [List.take_succ_eq_append_getElem hi, List.map_append, List.append_assoc]; rfl
      have hne : ((firstA op args ++ (as_.take i).map (·.1)) ++ [as_[i].1]).isEmpty = false := by rw [isEmpty_app]; simp
      rw [happ]
      simp only [go_sem, reduceIte, Nat.reduceEqDiff, Nat.reduceAdd, Nat.reduceMul, Nat.reduceSub, Nat.reduceLeDiff, Nat.reduceLT, reduceCtorEq, hne, List.map_append, List.map_cons, List.map_nil, eI]
    intro ⟨t2, H⟩ ⟨hr, hs⟩
    refine hK2 _ _ ?_
    refine aw_sr rfl ?_  -- r18 @code.go:213
    simp only [go_sem, reduceIte, Nat.reduceEqDiff, Nat.reduceAdd, Nat.reduceMul, Nat.reduceSub, Nat.reduceLeDiff, Nat.reduceLT, reduceCtorEq, List.take_length]
    exact aw_ret ⟨trivial, _, rfl, Vle.untag, hs⟩
  have km : ¬ (op = 11 ∨ op = 16) := by simpa using h
  refine aw_chain rfl rfl rfl rfl rfl ?_  -- t9 is one of [15, 17, 18, 25]
  refine aw_if rfl (fun h => ?_) (fun h => ?_)
  · have h : op = 15 ∨ op = 17 ∨ op = 18 ∨ op = 25 := by simpa using h
    refine aw_sr rfl ?_  -- r23 @code.go:215
    simp only [go_sem, reduceIte, Nat.reduceEqDiff, Nat.reduceAdd, Nat.reduceMul, Nat.reduceSub, Nat.reduceLeDiff, Nat.reduceLT, reduceCtorEq]
    refine aw_ret ⟨trivial, _, rfl, ?_, hsB⟩
    unfold nextF; rw [if_neg k3, if_neg k4, if_neg k27, if_neg km, if_pos h]; exact Vle.untag
  have ke : ¬ (op = 15 ∨ op = 17 ∨ op = 18 ∨ op = 25) := by simpa using h
  refine aw_skip (hK1 _ _ ?_)
  refine aw_sr rfl ?_  -- r24 @code.go:217
  simp only [go_sem, reduceIte, Nat.reduceEqDiff, Nat.reduceAdd, Nat.reduceMul, Nat.reduceSub, Nat.reduceLeDiff, Nat.reduceLT, reduceCtorEq, hw]
  refine aw_ret ⟨trivial, _, rfl, ?_, hsB⟩
  unfold nextF; rw [if_neg k3, if_neg k4, if_neg k27, if_neg km, if_neg ke]; exact Vle.untag
theorem ends_same (op : Int) : (shapesF op).2.2 = true ↔ (op = 15 ∨ op = 17 ∨ op = 18 ∨ op = 25) := by
  refine op_cases (p := fun op => (shapesF op).2.2 = true ↔ (op = 15 ∨ op = 17 ∨ op = 18 ∨ op = 25)) op ?_ ?_ ?_ ?_ ?_ ?_ ?_ ?_ ?_ ?_ ?_ ?_ ?_ ?_ ?_ ?_ ?_ ?_ ?_ ?_ ?_ ?_ ?_ ?_ ?_ ?_ ?_ (fun h => ?_)
  all_goals first | (rw [shapes_out h]; simp; omega) | decide
theorem q_rNext (op a b c at_ : Int) (args : List Int) (nl : Bool) (hl : args.length ≤ 1048576) (h0 : 0 ≤ at_) (h1 : at_ ≤ 1099511627776) : Quiet Try.prog 84 [.agg (cIns op a b c args nl), .int .i64 at_] (ints (nextF op a b c at_ args)) := by
  have hw : IntKind.i64.wrap (at_ + 1) = at_ + 1 := wrap64 (by omega) (by omega)
  have hal := arms_len op args
  have hfl := first_len op args
  refine Quiet.weak fun G => ?_
  refine acall_body (rs := [.tmp 4]) Try.func84 rfl rfl Try.ntmps84 (by kernel_rfl) (Nat.le_of_ble_eq_true rfl) ?_
  refine aw_sr rfl ?_  -- r0 @low.go:97
  simp only [go_sem, reduceIte, Nat.reduceEqDiff, Nat.reduceAdd, Nat.reduceMul, Nat.reduceSub, Nat.reduceLeDiff, Nat.reduceLT, reduceCtorEq]
  intro b2 hb2
  refine aw_box1 hb2 fun B1 hsB h2 => ?_
  refine aw_seq fun K1 hK1 => ?_
  refine aw_block ?_  -- 0
  refine aw_sr rfl ?_  -- r1 @low.go:99
  simp only [go_sem, reduceIte, Nat.reduceEqDiff, Nat.reduceAdd, Nat.reduceMul, Nat.reduceSub, Nat.reduceLeDiff, Nat.reduceLT, reduceCtorEq, h2]
  refine aw_if rfl (fun h => ?_) (fun h => ?_)
  · have h : op = 3 := by simpa using h
    refine aw_sr rfl ?_  -- r2 @low.go:100
    simp only [go_sem, reduceIte, Nat.reduceEqDiff, Nat.reduceAdd, Nat.reduceMul, Nat.reduceSub, Nat.reduceLeDiff, Nat.reduceLT, reduceCtorEq, h2]
    refine aw_ret ⟨trivial, _, rfl, ?_, hsB⟩
    unfold nextF; rw [if_pos h]; exact Vle.untag
  have k3 : ¬ op = 3 := by simpa using h
  refine aw_sr rfl ?_  -- r3 @low.go:101
  simp only [go_sem, reduceIte, Nat.reduceEqDiff, Nat.reduceAdd, Nat.reduceMul, Nat.reduceSub, Nat.reduceLeDiff, Nat.reduceLT, reduceCtorEq, h2]
  refine aw_if rfl (fun h => ?_) (fun h => ?_)
  · have h : op = 4 := by simpa using h
    refine aw_sr rfl ?_  -- r4 @low.go:102
    simp only [go_sem, reduceIte, Nat.reduceEqDiff, Nat.reduceAdd, Nat.reduceMul, Nat.reduceSub, Nat.reduceLeDiff, Nat.reduceLT, reduceCtorEq, h2, hw]
    refine aw_ret ⟨trivial, _, rfl, ?_, hsB⟩
    unfold nextF; rw [if_neg k3, if_pos h]; exact Vle.untag
  have k4 : ¬ op = 4 := by simpa using h
  refine aw_sr rfl ?_  -- r5 @low.go:103
  simp only [go_sem, reduceIte, Nat.reduceEqDiff, Nat.reduceAdd, Nat.reduceMul, Nat.reduceSub, Nat.reduceLeDiff, Nat.reduceLT, reduceCtorEq, h2]
  refine aw_if rfl (fun h => ?_) (fun h => ?_)
  · have h : op = 27 := by simpa using h
    refine aw_sr rfl ?_  -- r6 @low.go:104
    simp only [go_sem, reduceIte, Nat.reduceEqDiff, Nat.reduceAdd, Nat.reduceMul, Nat.reduceSub, Nat.reduceLeDiff, Nat.reduceLT, reduceCtorEq, h2, hw]
    refine aw_ret ⟨trivial, _, rfl, ?_, hsB⟩
    unfold nextF; rw [if_neg k3, if_neg k4, if_pos h]; exact Vle.untag
  have k27 : ¬ op = 27 := by simpa using h
  refine aw_sr rfl ?_  -- r7 @low.go:105
  simp only [go_sem, reduceIte, Nat.reduceEqDiff, Nat.reduceAdd, Nat.reduceMul, Nat.reduceSub, Nat.reduceLeDiff, Nat.reduceLT, reduceCtorEq, h2]
  refine goA_q (q_shapes op) ?_
  simp only [go_sem, reduceIte, Nat.reduceEqDiff, Nat.reduceAdd, Nat.reduceMul, Nat.reduceSub, Nat.reduceLeDiff, Nat.reduceLT, reduceCtorEq, cShape]
  refine aw_if rfl (fun h => ?_) (fun h => ?_)
  · have h := (ends_same op).1 h
    refine aw_sr rfl ?_  -- r8 @low.go:106
    simp only [go_sem, reduceIte, Nat.reduceEqDiff, Nat.reduceAdd, Nat.reduceMul, Nat.reduceSub, Nat.reduceLeDiff, Nat.reduceLT, reduceCtorEq]
    refine aw_ret ⟨trivial, _, rfl, ?_, hsB⟩
    unfold nextF; rw [if_neg k3, if_neg k4, if_neg k27, if_neg (by omega), if_pos h]; exact Vle.untag
  have ke : ¬ (op = 15 ∨ op = 17 ∨ op = 18 ∨ op = 25) := fun q => by rw [(ends_same op).2 q] at h; cases h
  refine aw_sr rfl ?_  -- r9 @low.go:107
  simp only [go_sem, reduceIte, Nat.reduceEqDiff, Nat.reduceAdd, Nat.reduceMul, Nat.reduceSub, Nat.reduceLeDiff, Nat.reduceLT, reduceCtorEq, h2]
  refine aw_if rfl (fun h => ?_) (fun h => ?_)
  · have hm : op = 11 ∨ op = 16 := by simpa using h
    have hE : nextF op a b c at_ args = firstA op args ++ (armsF op args).map (·.1) := by unfold nextF; rw [if_neg k3, if_neg k4, if_neg k27, if_pos hm]
    rw [hE]
    refine aw_sr rfl ?_  -- r10 @low.go:108
    simp only [go_sem, reduceIte, Nat.reduceEqDiff, Nat.reduceAdd, Nat.reduceMul, Nat.reduceSub, Nat.reduceLeDiff, Nat.reduceLT, reduceCtorEq]
    refine aw_mid (fun f' G' => ∃ tg, Rm G G' 1 tg ∧ Sub G G' ∧ hget G' b2 = some (.vars (cIns op a b c args nl)) ∧ FSub [(5, .sl ((firstA op args).map eI) (firstA op args).isEmpty tg), (2, .ptr b2 0)] f') ?_ ?_
    · -- 2 ways
      refine aw_srq [(0,true),(1,true),(2,true),(3,true),(4,true),(5,true),(6,true),(7,true),(8,true),(9,true),(10,true),(11,true),(12,true),(13,true),(14,true),(15,true)] rfl rfl ?_  -- r11 @low.go:109
      cases args with
      | nil =>
        simp only [go_sem, reduceIte, Nat.reduceEqDiff, Nat.reduceAdd, Nat.reduceMul, Nat.reduceSub, Nat.reduceLeDiff, Nat.reduceLT, reduceCtorEq, h2, List.map_nil, show decide ((0 : Int) < ((0 : Nat) : Int)) = false from rfl, Bool.and_false, Bool.false_and, Bool.false_eq_true, false_implies, true_and]
        refine aw_if (b := false) rfl (fun h => by cases h) (fun h => ?_)
        exact aw_skip ⟨.full, Rm.start _ _ _, hsB, h2, rfl, rfl⟩
      | cons x l =>
        have hpos : decide ((0 : Int) < ((l.length + 1 : Nat) : Int)) = true := decide_eq_true (by omega)
        simp only [List.length_cons] at hl
        simp only [go_sem, reduceIte, Nat.reduceEqDiff, Nat.reduceAdd, Nat.reduceMul, Nat.reduceSub, Nat.reduceLeDiff, Nat.reduceLT, reduceCtorEq, h2, List.map_cons, hpos, Bool.and_true, Int.toNat_zero, List.getD_cons_zero, eI]
        refine ⟨fun _ => ⟨by omega, by omega, wid_eI (x :: l)⟩, ?_⟩
        refine aw_if rfl (fun h => ?_) (fun h => ?_)
        · have hh : op = 16 ∧ 0 ≤ x := by simp at h; omega
          have hF : firstA op (x :: l) = [x] := if_pos hh
          refine aw_rg rfl ?_  -- r12 @low.go:110
          simp only [go_sem, reduceIte, Nat.reduceEqDiff, Nat.reduceAdd, Nat.reduceMul, Nat.reduceSub, Nat.reduceLeDiff, Nat.reduceLT, reduceCtorEq, h2, List.map_cons, Int.toNat_zero, List.getD_cons_zero, eI]
          refine ⟨⟨by omega, by omega, wid_eI (x :: l)⟩, ?_⟩
          rw [hF]
          exact ⟨.full, Rm.start _ _ _, hsB, h2, rfl, rfl⟩
        · have hh : ¬ (op = 16 ∧ 0 ≤ x) := by
            intro ⟨q1, q2⟩; simp [q1] at h; omega
          have hF : firstA op (x :: l) = [] := if_neg hh
          rw [hF]
          exact aw_skip ⟨.full, Rm.start _ _ _, hsB, h2, rfl, rfl⟩
    intro f' G' ⟨tg, hr, hs, h2, hf⟩
    refine AW.of_fsub hf ?_
    refine aw_seq fun K2 hK2 => ?_
    refine aw_sr rfl ?_  -- r13 @low.go:112
    simp only [go_sem, reduceIte, Nat.reduceEqDiff, Nat.reduceAdd, Nat.reduceMul, Nat.reduceSub, Nat.reduceLeDiff, Nat.reduceLT, reduceCtorEq, h2]
    refine goA_q (q_rArms op a b c args nl hl) ?_
    simp only [go_sem, reduceIte, Nat.reduceEqDiff, Nat.reduceAdd, Nat.reduceMul, Nat.reduceSub, Nat.reduceLeDiff, Nat.reduceLT, reduceCtorEq, ars]
    generalize armsF op args = as_ at *
    refine aw_range as_.length (S := Tag × Heap) (fun i st => [(5, .sl ((firstA op args ++ (as_.take i).map (·.1)).map eI) (firstA op args ++ (as_.take i).map (·.1)).isEmpty st.1), (69, .sl (as_.map eAr) as_.isEmpty .no)]) (fun _ st => st.2) (fun i st => Rm G st.2 1 st.1 ∧ Sub G st.2) (tg, G') (by omega) ?_ (fun _ _ h => h) ⟨hr, hs⟩ rfl (fun _ _ => rfl) ?_ ?_ (by decide)
    · simp only [go_sem, reduceIte, Nat.reduceEqDiff, Nat.reduceAdd, Nat.reduceMul, Nat.reduceSub, Nat.reduceLeDiff, Nat.reduceLT, reduceCtorEq, Int.natCast_zero, List.take_zero, List.map_nil, List.append_nil]
    · intro i ⟨t2, H⟩ hi ⟨hr, hs⟩
      simp only at hr hs ⊢
      refine aw_sr rfl ?_  -- r15 @low.go:112
      simp only [go_sem, reduceIte, Nat.reduceEqDiff, Nat.reduceAdd, Nat.reduceMul, Nat.reduceSub, Nat.reduceLeDiff, Nat.reduceLT, reduceCtorEq, getD_map hi, eAr]
      refine ⟨⟨by omega, by omega, wid_eAr _⟩, ?_⟩
      intro b7 hb7
      refine aw_box1 hb7 fun B2 hs2 h7 => ?_
      refine aw_rg rfl ?_  -- r16 @low.go:113
      simp only [go_sem, reduceIte, Nat.reduceEqDiff, Nat.reduceAdd, Nat.reduceMul, Nat.reduceSub, Nat.reduceLeDiff, Nat.reduceLT, reduceCtorEq, h7]
      refine goP_rm (hr.sub hs2) (sub_trans hs hs2) ?_ fun t' H' hr' hs' hg => ?_
      · exact ⟨rfl, rfl, by decide, wid_eI _, wid_one rfl, sca_one rfl, by simp only [List.length_map, List.length_append, List.length_cons, List.length_nil, List.length_take, List.length_drop]; omega, by simp only [List.length_map, List.length_append, List.length_cons, List.length_nil, List.length_take, List.length_drop]; omega⟩
      simp only [go_sem, reduceIte, Nat.reduceEqDiff, Nat.reduceAdd, Nat.reduceMul, Nat.reduceSub, Nat.reduceLeDiff, Nat.reduceLT, reduceCtorEq, Bool.and_false]
      refine ⟨(t', H'), ⟨hr', hs'⟩, ?_, sub_rfl⟩
      have happ : (firstA op args ++ (as_.take (i + 1)).map (·.1)) = (firstA op args ++ (as_.take i).map (·.1)) ++ [as_[i].1] := by
        rw [List.take_succ_eq_append_getElem hi, List.map_append, List.append_assoc]; rfl
      have hne : ((firstA op args ++ (as_.take i).map (·.1)) ++ [as_[i].1]).isEmpty = false := by rw [isEmpty_app]; simp
      rw [happ]
      simp only [go_sem, reduceIte, Nat.reduceEqDiff, Nat.reduceAdd, Nat.reduceMul, Nat.reduceSub, Nat.reduceLeDiff, Nat.reduceLT, reduceCtorEq, hne, List.map_append, List.map_cons, List.map_nil, eI]
    intro ⟨t2, H⟩ ⟨hr, hs⟩
    refine hK2 _ _ ?_
    refine aw_sr rfl ?_  -- r18 @low.go:115
    simp only [go_sem, reduceIte, Nat.reduceEqDiff, Nat.reduceAdd, Nat.reduceMul, Nat.reduceSub, Nat.reduceLeDiff, Nat.reduceLT, reduceCtorEq, List.take_length]
    exact aw_ret ⟨trivial, _, rfl, Vle.untag, hs⟩
  have km : ¬ (op = 11 ∨ op = 16) := by simpa using h
  refine aw_skip (hK1 _ _ ?_)
  refine aw_sr rfl ?_  -- r19 @low.go:117
  simp only [go_sem, reduceIte, Nat.reduceEqDiff, Nat.reduceAdd, Nat.reduceMul, Nat.reduceSub, Nat.reduceLeDiff, Nat.reduceLT, reduceCtorEq, hw]
  refine aw_ret ⟨trivial, _, rfl, ?_, hsB⟩
  unfold nextF; rw [if_neg k3, if_neg k4, if_neg k27, if_neg km, if_neg ke]; exact Vle.untag
end Go.Proofs.Ytomjghlaoncpbaa

/- Lists of numbers and of arms, compared. Condition: fewer than 2^63 elements. -/
set_option linter.unusedSimpArgs false
set_option linter.unusedVariables false
namespace Go.Proofs.Ytomjghlaoncpbaa
open Go.Proofs.YtomjghlaoncpbaaV
set_option maxHeartbeats 400000
set_option maxRecDepth 100000
theorem q_EqualI (xs ys : List Int) (n1 n2 : Bool) (t1 t2 : Tag) (hx : (xs.length : Int) ≤ 9223372036854775807) : Quiet Try.prog 45 [.sl (xs.map eI) n1 t1, .sl (ys.map eI) n2 t2] (.bool (decide (xs = ys))) := by
  intro G
  refine acall_body (rs := [.tmp 4]) Try.func45 rfl rfl Try.ntmps45 (by kernel_rfl) (Nat.le_of_ble_eq_true rfl) ?_
  refine aw_sr rfl ?_
  simp only [go_sem, reduceIte, Nat.reduceEqDiff, Nat.reduceAdd, Nat.reduceMul, Nat.reduceSub, Nat.reduceLeDiff, Nat.reduceLT, reduceCtorEq]
  refine aw_seq fun K2 hK2 => ?_
  refine aw_sr rfl ?_
  simp only [go_sem, reduceIte, Nat.reduceEqDiff, Nat.reduceAdd, Nat.reduceMul, Nat.reduceSub, Nat.reduceLeDiff, Nat.reduceLT, reduceCtorEq]
  refine aw_if rfl (fun h => ?_) (fun h => ?_)
  · refine aw_sr rfl ?_
    simp only [go_sem, reduceIte, Nat.reduceEqDiff, Nat.reduceAdd, Nat.reduceMul, Nat.reduceSub, Nat.reduceLeDiff, Nat.reduceLT, reduceCtorEq]
    refine aw_ret ⟨trivial, _, rfl, ?_⟩
    simp only [decide_eq_true_eq, ne_eq, Int.natCast_inj] at h
    refine ⟨?_, rfl⟩
    rw [decide_eq_false (fun e => h (by rw [e]))]
    rfl
  · refine aw_skip (hK2 _ _ ?_)
    have hl : xs.length = ys.length := by simpa [Int.natCast_inj] using h
    refine aw_seq fun K3 hK3 => ?_
    refine aw_sr rfl ?_
    simp only [go_sem, reduceIte, Nat.reduceEqDiff, Nat.reduceAdd, Nat.reduceMul, Nat.reduceSub, Nat.reduceLeDiff, Nat.reduceLT, reduceCtorEq]
    refine aw_range xs.length (S := Unit) (fun _ _ => [(0, .sl (xs.map eI) n1 t1), (1, .sl (ys.map eI) n2 t2)]) (fun _ _ => G) (fun i _ => xs.take i = ys.take i) () hx ?_ (fun _ _ h => h) rfl rfl (fun _ _ => rfl) ?_ ?_ (by decide)
    · simp only [go_sem, reduceIte, Nat.reduceEqDiff, Nat.reduceAdd, Nat.reduceMul, Nat.reduceSub, Nat.reduceLeDiff, Nat.reduceLT, reduceCtorEq]
    · intro i _ hi he
      refine aw_sr rfl ?_
      simp only [go_sem, reduceIte, Nat.reduceEqDiff, Nat.reduceAdd, Nat.reduceMul, Nat.reduceSub, Nat.reduceLeDiff, Nat.reduceLT, reduceCtorEq]
      refine aw_srd [(0,true),(1,true),(2,true),(3,true),(4,true),(5,true),(6,true),(7,true),(8,true)] mixed rfl (by kernel_rfl) ?_
      simp only [go_sem, reduceIte, Nat.reduceEqDiff, Nat.reduceAdd, Nat.reduceMul, Nat.reduceSub, Nat.reduceLeDiff, Nat.reduceLT, reduceCtorEq, getD_map hi, getD_map (hl ▸ hi), eI]
      refine ⟨⟨by omega, by omega, wid_map (g := eI) (fun _ => rfl) _⟩, ⟨by omega, by omega, wid_map (g := eI) (fun _ => rfl) _⟩, ?_⟩
      refine aw_if rfl (fun h => ?_) (fun h => ?_)
      · refine aw_sr rfl ?_
        simp only [go_sem, reduceIte, Nat.reduceEqDiff, Nat.reduceAdd, Nat.reduceMul, Nat.reduceSub, Nat.reduceLeDiff, Nat.reduceLT, reduceCtorEq]
        refine aw_ret ⟨trivial, _, rfl, ?_⟩
        refine ⟨?_, rfl⟩
        have h : ¬ xs[i] = ys[i]'(hl ▸ hi) := by simpa using h
        rw [decide_eq_false (fun e => h (by subst e; rfl))]
        rfl
      · have h : xs[i] = ys[i]'(hl ▸ hi) := by simpa using h
        refine aw_skip ⟨(), ?_, ?_, fun _ _ h => h⟩
        · rw [List.take_succ_eq_append_getElem hi, List.take_succ_eq_append_getElem (hl ▸ hi), he, h]
        · simp only [go_sem, reduceIte, Nat.reduceEqDiff, Nat.reduceAdd, Nat.reduceMul, Nat.reduceSub, Nat.reduceLeDiff, Nat.reduceLT, reduceCtorEq]
    · intro _ he
      refine hK3 _ _ ?_
      refine aw_sr rfl ?_
      simp only [go_sem, reduceIte, Nat.reduceEqDiff, Nat.reduceAdd, Nat.reduceMul, Nat.reduceSub, Nat.reduceLeDiff, Nat.reduceLT, reduceCtorEq]
      refine aw_ret ⟨trivial, _, rfl, ?_⟩
      rw [List.take_length, hl, List.take_length] at he
      subst he
      rw [decide_eq_true rfl]
      exact ⟨rfl, rfl⟩
theorem q_EqualFuncAr (F : FuncId) (us ws : List V) (f : Ar → Ar → Bool) (xs ys : List Ar) (n1 n2 : Bool) (t1 t2 : Tag) (hx : (xs.length : Int) ≤ 9223372036854775807)
    (hF : ∀ a ∈ xs, ∀ b ∈ ys, Quiet Try.prog F (us ++ [.agg (eAr a), .agg (eAr b)] ++ ws) (.bool (f a b))) :
    Quiet Try.prog 124 [.sl (xs.map eAr) n1 t1, .sl (ys.map eAr) n2 t2, .func (.func F) us ws] (.bool (eqF f xs ys)) := by
  refine Quiet.weak fun G => ?_
  refine acall_body (rs := [.tmp 6]) Try.func124 rfl rfl Try.ntmps124 (by kernel_rfl) (Nat.le_of_ble_eq_true rfl) ?_
  refine aw_sr rfl ?_
  simp only [go_sem, reduceIte, Nat.reduceEqDiff, Nat.reduceAdd, Nat.reduceMul, Nat.reduceSub, Nat.reduceLeDiff, Nat.reduceLT, reduceCtorEq]
  refine aw_seq fun K1 hK1 => ?_
  refine aw_sr rfl ?_
  simp only [go_sem, reduceIte, Nat.reduceEqDiff, Nat.reduceAdd, Nat.reduceMul, Nat.reduceSub, Nat.reduceLeDiff, Nat.reduceLT, reduceCtorEq]
  refine aw_if rfl (fun h => ?_) (fun h => ?_)
  · refine aw_sr rfl ?_
    simp only [go_sem, reduceIte, Nat.reduceEqDiff, Nat.reduceAdd, Nat.reduceMul, Nat.reduceSub, Nat.reduceLeDiff, Nat.reduceLT, reduceCtorEq]
    refine aw_ret ⟨trivial, _, rfl, ?_, fun _ _ h => h⟩
    have h : ¬ xs.length = ys.length := by simpa [Int.natCast_inj] using h
    rw [eqF, decide_eq_false h]
    exact Vle.refl _
  · refine aw_skip (hK1 _ _ ?_)
    have hl : xs.length = ys.length := by simpa [Int.natCast_inj] using h
    refine aw_seq fun K2 hK2 => ?_
    refine aw_sr rfl ?_
    simp only [go_sem, reduceIte, Nat.reduceEqDiff, Nat.reduceAdd, Nat.reduceMul, Nat.reduceSub, Nat.reduceLeDiff, Nat.reduceLT, reduceCtorEq]
    refine aw_range xs.length (S := Unit) (fun _ _ => [(15, .sl (xs.map eAr) n1 t1), (1, .sl (ys.map eAr) n2 t2), (2, .func (.func F) us ws)]) (fun _ _ => G) (fun i _ => ((xs.take i).zip (ys.take i)).all (fun p => f p.1 p.2) = true) () hx ?_ (fun _ _ h => h) rfl rfl (fun _ _ => rfl) ?_ ?_ (by decide)
    · simp only [go_sem, reduceIte, Nat.reduceEqDiff, Nat.reduceAdd, Nat.reduceMul, Nat.reduceSub, Nat.reduceLeDiff, Nat.reduceLT, reduceCtorEq, Int.natCast_zero]
    · intro i _ hi he
      have hi2 : i < ys.length := hl ▸ hi
      refine aw_sr rfl ?_
      simp only [go_sem, reduceIte, Nat.reduceEqDiff, Nat.reduceAdd, Nat.reduceMul, Nat.reduceSub, Nat.reduceLeDiff, Nat.reduceLT, reduceCtorEq, getD_map hi, getD_map hi2, eAr]
      refine ⟨⟨by omega, by omega, wid_map (g := eAr) (fun _ => by simp [eAr]) _⟩, fun b hb => ?_⟩
      refine aw_sr rfl ?_
      simp only [go_sem, reduceIte, Nat.reduceEqDiff, Nat.reduceAdd, Nat.reduceMul, Nat.reduceSub, Nat.reduceLeDiff, Nat.reduceLT, reduceCtorEq, getD_map hi, getD_map hi2, eAr]
      refine ⟨⟨by omega, by omega, wid_map (g := eAr) (fun _ => by simp [eAr]) _⟩, fun b2 hb2 => ?_⟩
      have hne : ¬ b2 = b := by intro e; subst e; rw [hget_cons, if_pos rfl] at hb2; cases hb2
      refine aw_sr rfl ?_
      simp only [go_sem, reduceIte, Nat.reduceEqDiff, Nat.reduceAdd, Nat.reduceMul, Nat.reduceSub, Nat.reduceLeDiff, Nat.reduceLT, reduceCtorEq, hget_cons, hne]
      have hq := hF _ (List.getElem_mem hi) _ (List.getElem_mem hi2)
      refine goA_q hq ?_
      simp only [go_sem, reduceIte, Nat.reduceEqDiff, Nat.reduceAdd, Nat.reduceMul, Nat.reduceSub, Nat.reduceLeDiff, Nat.reduceLT, reduceCtorEq]
      refine aw_if rfl (fun h => ?_) (fun h => ?_)
      · refine aw_sr rfl ?_
        simp only [go_sem, reduceIte, Nat.reduceEqDiff, Nat.reduceAdd, Nat.reduceMul, Nat.reduceSub, Nat.reduceLeDiff, Nat.reduceLT, reduceCtorEq]
        refine aw_ret ⟨trivial, _, rfl, ?_, fun b' o' h => hsub_at hb2 _ _ (hsub_at hb _ _ h)⟩
        rw [eqF, all_zip_not (q := fun p => f p.1 p.2) hi hi2 (by simpa using h), Bool.and_false]
        exact Vle.refl _
      · refine aw_skip ⟨(), all_zip_next (q := fun p => f p.1 p.2) he hi hi2 (by simpa using h), ?_, fun b' o' h => hsub_at hb2 _ _ (hsub_at hb _ _ h)⟩
        simp only [go_sem, reduceIte, Nat.reduceEqDiff, Nat.reduceAdd, Nat.reduceMul, Nat.reduceSub, Nat.reduceLeDiff, Nat.reduceLT, reduceCtorEq]
    · intro _ he
      refine hK2 _ _ ?_
      refine aw_sr rfl ?_
      simp only [go_sem, reduceIte, Nat.reduceEqDiff, Nat.reduceAdd, Nat.reduceMul, Nat.reduceSub, Nat.reduceLeDiff, Nat.reduceLT, reduceCtorEq]
      refine aw_ret ⟨trivial, _, rfl, ?_, fun _ _ h => h⟩
      rw [eqF, decide_eq_true hl, Bool.true_and]
      rw [List.take_length, hl, List.take_length] at he
      rw [he]
      exact Vle.refl _
theorem q_sameArms1 (x y : Ar) (hx : x.2.length ≤ 1048576) : Quiet Try.prog 125 ([] ++ [.agg (eAr x), .agg (eAr y)] ++ []) (.bool (decide (x = y))) := by
  refine Quiet.weak fun G => ?_
  refine acall_body (rs := [.tmp 4]) Try.func125 rfl rfl Try.ntmps125 (by kernel_rfl) (Nat.le_of_ble_eq_true rfl) ?_
  refine aw_sr rfl ?_  -- r0 @low.go:72
  simp only [go_sem, reduceIte, Nat.reduceEqDiff, Nat.reduceAdd, Nat.reduceMul, Nat.reduceSub, Nat.reduceLeDiff, Nat.reduceLT, reduceCtorEq, eAr]
  intro b2 hb2 b3 hb3
  refine aw_box2 hb2 hb3 fun B1 hsB h2 h3 _ _ => ?_
  refine aw_sr rfl ?_  -- r1 @low.go:72
  simp only [go_sem, reduceIte, Nat.reduceEqDiff, Nat.reduceAdd, Nat.reduceMul, Nat.reduceSub, Nat.reduceLeDiff, Nat.reduceLT, reduceCtorEq, h2, h3]
  refine goH_q (fun hg => q_EqualI x.2 y.2 x.2.isEmpty y.2.isEmpty .no .no (by omega)) ?_
  simp only [go_sem, reduceIte, Nat.reduceEqDiff, Nat.reduceAdd, Nat.reduceMul, Nat.reduceSub, Nat.reduceLeDiff, Nat.reduceLT, reduceCtorEq]
  refine aw_ret ⟨trivial, _, rfl, ?_, hsB⟩
  have : (decide (x.1 = y.1) && decide (x.2 = y.2)) = decide (x = y) := by rw [Bool.eq_iff_iff]; simp [Prod.ext_iff]
  rw [← this]
  exact Vle.refl _
theorem eqF_same {A : Type} [DecidableEq A] : ∀ xs ys : List A, eqF (fun a b => decide (a = b)) xs ys = decide (xs = ys)
  | [], [] => rfl
  | [], _ :: _ => by simp [eqF]
  | _ :: _, [] => by simp [eqF]
  | x :: xs, y :: ys => by rw [eqF_cons, eqF_same xs ys]; simp
theorem q_sameArms (xs ys : List Ar) (n1 n2 : Bool) (t1 t2 : Tag) (hx : xs.length ≤ 1048576) (hr : ∀ a ∈ xs, a.2.length ≤ 1048576) : Quiet Try.prog 76 [.sl (xs.map eAr) n1 t1, .sl (ys.map eAr) n2 t2] (.bool (decide (xs = ys))) := by
  refine Quiet.weak fun G => ?_
  refine acall_body (rs := [.tmp 4]) Try.func76 rfl rfl Try.ntmps76 (by kernel_rfl) (Nat.le_of_ble_eq_true rfl) ?_
  refine aw_sr rfl ?_  -- r0 @low.go:71
  simp only [go_sem, reduceIte, Nat.reduceEqDiff, Nat.reduceAdd, Nat.reduceMul, Nat.reduceSub, Nat.reduceLeDiff, Nat.reduceLT, reduceCtorEq]
  refine aw_sr rfl ?_  -- r1 @low.go:72
  simp only [go_sem, reduceIte, Nat.reduceEqDiff, Nat.reduceAdd, Nat.reduceMul, Nat.reduceSub, Nat.reduceLeDiff, Nat.reduceLT, reduceCtorEq]
  refine goA_q (q_EqualFuncAr 125 [] [] (fun a b => decide (a = b)) xs ys n1 n2 t1 t2 (by omega) fun a ha b _ => q_sameArms1 a b (hr a ha)) ?_
  simp only [go_sem, reduceIte, Nat.reduceEqDiff, Nat.reduceAdd, Nat.reduceMul, Nat.reduceSub, Nat.reduceLeDiff, Nat.reduceLT, reduceCtorEq]
  rw [eqF_same]
  exact aw_ret ⟨trivial, _, rfl, Vle.refl _, sub_rfl⟩
theorem gat_regs : ∀ (n : Nat) (l : List Int) (x : List Ar), gatN n l = some x → ∀ a ∈ x, a.2.length ≤ l.length
  | n, [], x, h => by cases n <;> (simp [gatN] at h; subst h; simp)
  | n, [_], x, h => by cases n <;> simp [gatN] at h
  | 0, _ :: _ :: _, x, h => by simp [gatN] at h
  | n + 1, a :: k :: l, x, h => by
    rw [gatN] at h
    split at h
    · cases h
    · rw [Option.map_eq_some_iff] at h
      obtain ⟨y, hy, rfl⟩ := h
      intro b hb
      simp only [List.length_cons]
      rcases List.mem_cons.1 hb with rfl | hb
      · rw [List.length_take]; omega
      · have := gat_regs n _ y hy b hb
        rw [List.length_drop] at this
        omega
theorem gatF_regs (l : List Int) : ∀ a ∈ (gatF l).getD [], a.2.length ≤ l.length := by
  cases h : gatF l with
  | none => simp
  | some x => exact gat_regs _ _ _ h
theorem gatF_len (l : List Int) : ((gatF l).getD []).length ≤ l.length := by
  cases h : gatF l with
  | none => simp
  | some x => exact gat_len _ _ _ h
theorem arms_regs (op : Int) (args : List Int) : ∀ a ∈ armsF op args, a.2.length ≤ args.length := by
  unfold armsF
  split
  · exact gatF_regs args
  · split
    · split
      · simp
      · rename_i x l; intro a ha; have := gatF_regs l a ha; simp only [List.length_cons]; omega
    · simp
end Go.Proofs.Ytomjghlaoncpbaa

/- api.Type, api.Pat, api.Expr as data; what is known of any of them of no more bulk than a statement allows. No conditions. -/
set_option linter.unusedSimpArgs false
set_option linter.unusedVariables false
namespace Go.Proofs.Ytomjghlaoncpbaa
open Go.Proofs.YtomjghlaoncpbaaV
set_option maxRecDepth 100000
/-! ### types -/
inductive Typ where
  | mk (kind : Int) (name : List UInt8) (args : List Typ) (nl : Bool)
namespace Typ
def kind : Typ → Int | mk k _ _ _ => k
def name : Typ → List UInt8 | mk _ n _ _ => n
def args : Typ → List Typ | mk _ _ a _ => a
def nl : Typ → Bool | mk _ _ _ b => b
end Typ
instance : Inhabited Typ := ⟨.mk 0 [] [] true⟩
mutual
def eTyp : Typ → List V | .mk k n ar nl => [.int .i64 k, .str n, .sl (eTyps ar) nl .no]
def eTyps : List Typ → List (List V) | [] => [] | v :: vs => eTyp v :: eTyps vs
end
mutual
def Typ.sz : Typ → Nat | .mk _ _ ar _ => 1 + tszs ar
def tszs : List Typ → Nat | [] => 0 | v :: vs => v.sz + tszs vs
end
theorem eTyps_map : ∀ vs, eTyps vs = vs.map eTyp
  | [] => rfl
  | v :: vs => by rw [eTyps, eTyps_map vs]; rfl
abbrev cTyp (v : Typ) : List V := [.int .i64 v.kind, .str v.name, .sl (v.args.map eTyp) v.nl .no]
theorem eTyp_eq (v : Typ) : eTyp v = cTyp v := by
  cases v; rw [eTyp, eTyps_map]; rfl
theorem tszs_mem {v : Typ} : ∀ {vs : List Typ}, v ∈ vs → v.sz ≤ tszs vs
  | u :: vs, h => by
    simp only [tszs]
    rcases List.mem_cons.1 h with rfl | h
    · omega
    · have := tszs_mem h; omega
theorem Typ.sz_eq (v : Typ) : v.sz = 1 + tszs v.args := by cases v; rw [Typ.sz]; rfl
theorem tszs_append : ∀ a b : List Typ, tszs (a ++ b) = tszs a + tszs b
  | [], b => by simp [tszs]
  | v :: a, b => by simp only [List.cons_append, tszs, tszs_append a b]; omega
theorem tszs_len : ∀ vs : List Typ, vs.length ≤ tszs vs
  | [] => by simp [tszs]
  | v :: vs => by have := tszs_len vs; have := v.sz_eq; simp only [tszs, List.length_cons]; omega
theorem Typ.sz_args {v a : Typ} (h : a ∈ v.args) : a.sz < v.sz := by have := tszs_mem h; have := v.sz_eq; omega
inductive OkTyp : Typ → Prop
  | mk {k : Int} {t : List UInt8} {ar : List Typ} {nl : Bool} (hk : IntKind.i64.min ≤ k ∧ k ≤ IntKind.i64.max) (ht : t.length ≤ bulk) (hnl : nl = true → ar = []) (hl : ar.length ≤ bulk) (ha : ∀ a ∈ ar, OkTyp a) : OkTyp (.mk k t ar nl)
theorem OkTyp.name {v : Typ} (h : OkTyp v) : v.name.length ≤ bulk := by cases h; assumption
theorem OkTyp.len {v : Typ} (h : OkTyp v) : v.args.length ≤ bulk := by cases h; assumption
theorem OkTyp.nil {v : Typ} (h : OkTyp v) : v.nl = true → v.args = [] := by cases h; assumption
theorem OkTyp.arg {v a : Typ} (h : OkTyp v) (ha : a ∈ v.args) : OkTyp a := by cases h; rename_i ha'; exact ha' a ha
theorem OkTyp.kind {v : Typ} (h : OkTyp v) : IntKind.i64.min ≤ v.kind ∧ v.kind ≤ IntKind.i64.max := by cases h; assumption
def oTyp (v : Typ) : Prop := OkTyp v ∧ v.sz ≤ bulk
theorem oTyp.arg {v a : Typ} (h : oTyp v) (ha : a ∈ v.args) : oTyp a := ⟨h.1.arg ha, Nat.le_trans (Nat.le_of_lt (Typ.sz_args ha)) h.2⟩
mutual
theorem tsz_le : ∀ v : Typ, v.sz ≤ vszL (eTyp v)
  | .mk k n ar nl => by have := tszs_le ar; simp only [Typ.sz, eTyp, vszL, vsz]; omega
theorem tszs_le : ∀ vs : List Typ, tszs vs ≤ vszLL (eTyps vs)
  | [] => by simp [tszs]
  | v :: vs => by have := tsz_le v; have := tszs_le vs; simp only [tszs, eTyps, vszLL]; omega
end
theorem pTyp (v : Typ) : 1 ≤ vszL (eTyp v) := by have := tsz_le v; have := v.sz_eq; omega
theorem dTyp0 : ∀ n, Dec Try.prog 65 eTyp OkTyp n := by
  intro n
  induction n using Nat.strongRecOn with
  | _ n ih =>
    intro cs hv hb
    obtain ⟨m, rfl, h⟩ := dec_struct (ts := [3, 9, 63]) (by kernel_rfl) hv
    obtain ⟨a0, r0, rfl, _, h0, a2, r2, rfl, _, h2, a3, r3, rfl, _, h3, rfl⟩ := h
    simp only [vszL_append] at hb
    obtain ⟨x0, rfl, q0⟩ := dec_int (n := m) (k := .i64) (by kernel_rfl) _ h0 (by omega)
    obtain ⟨x2, rfl, q2⟩ := dec_str (n := m) (by kernel_rfl) _ h2 (by omega)
    obtain ⟨x3, rfl, q3, q4, q5⟩ := dec_slice (n := m) (el := 65) (by kernel_rfl) pTyp (fun k hk => ih k (by omega)) _ h3 (by omega)
    exact ⟨.mk x0 x2 x3.1 x3.2, by rw [eTyp_eq]; rfl, .mk q0 q2 q3 q4 q5⟩
theorem dTyp (n : Nat) : Dec Try.prog 65 eTyp oTyp n := fun cs hv hb => by
  obtain ⟨x, rfl, h⟩ := dTyp0 n cs hv hb
  exact ⟨x, rfl, h, Nat.le_trans (tsz_le x) hb⟩
/-- Lists of types. -/
abbrev Typs := List Typ × Bool
def eTypL (x : Typs) : List V := [.sl (x.1.map eTyp) x.2 .no]
def oTypL (x : Typs) : Prop := (x.2 = true → x.1 = []) ∧ tszs x.1 ≤ bulk ∧ ∀ t ∈ x.1, OkTyp t
theorem pTypL (x : Typs) : 1 ≤ vszL (eTypL x) := by simp only [eTypL, vszL, vsz]; omega
theorem dTypL (n : Nat) : Dec Try.prog 63 eTypL oTypL n := fun cs hv hb => by
  obtain ⟨x, rfl, h1, h2, h3⟩ := dec_slice (el := 65) (by kernel_rfl) pTyp (fun k _ => dTyp0 k) cs hv hb
  refine ⟨x, rfl, h1, ?_, h3⟩
  have := tszs_le x.1
  rw [eTyps_map] at this
  simp only [vszL, vsz] at hb
  omega
theorem oTypL.mem {x : Typs} (h : oTypL x) {t : Typ} (ht : t ∈ x.1) : oTyp t := ⟨h.2.2 t ht, Nat.le_trans (tszs_mem ht) h.2.1⟩
theorem oTypL.len {x : Typs} (h : oTypL x) : x.1.length ≤ bulk := Nat.le_trans (tszs_len _) h.2.1
/-! ### patterns -/
inductive Pat where
  | mk (kind num : Int) (text : List UInt8) (args : List Pat) (nl : Bool)
namespace Pat
def kind : Pat → Int | mk k _ _ _ _ => k
def num : Pat → Int | mk _ n _ _ _ => n
def text : Pat → List UInt8 | mk _ _ t _ _ => t
def args : Pat → List Pat | mk _ _ _ a _ => a
def nl : Pat → Bool | mk _ _ _ _ b => b
end Pat
instance : Inhabited Pat := ⟨.mk 0 0 [] [] true⟩
mutual
def ePat : Pat → List V | .mk k n t ar nl => [.int .i64 k, .int .i64 n, .str t, .sl (ePats ar) nl .no]
def ePats : List Pat → List (List V) | [] => [] | v :: vs => ePat v :: ePats vs
end
mutual
def Pat.sz : Pat → Nat | .mk _ _ _ ar _ => 1 + pszs ar
def pszs : List Pat → Nat | [] => 0 | v :: vs => v.sz + pszs vs
end
theorem ePats_map : ∀ vs, ePats vs = vs.map ePat
  | [] => rfl
  | v :: vs => by rw [ePats, ePats_map vs]; rfl
abbrev cPat (v : Pat) : List V := [.int .i64 v.kind, .int .i64 v.num, .str v.text, .sl (v.args.map ePat) v.nl .no]
theorem ePat_eq (v : Pat) : ePat v = cPat v := by
  cases v; rw [ePat, ePats_map]; rfl
theorem pszs_mem {v : Pat} : ∀ {vs : List Pat}, v ∈ vs → v.sz ≤ pszs vs
  | u :: vs, h => by
    simp only [pszs]
    rcases List.mem_cons.1 h with rfl | h
    · omega
    · have := pszs_mem h; omega
theorem Pat.sz_eq (v : Pat) : v.sz = 1 + pszs v.args := by cases v; rw [Pat.sz]; rfl
theorem pszs_append : ∀ a b : List Pat, pszs (a ++ b) = pszs a + pszs b
  | [], b => by simp [pszs]
  | v :: a, b => by simp only [List.cons_append, pszs, pszs_append a b]; omega
theorem pszs_len : ∀ vs : List Pat, vs.length ≤ pszs vs
  | [] => by simp [pszs]
  | v :: vs => by have := pszs_len vs; have := v.sz_eq; simp only [pszs, List.length_cons]; omega
theorem Pat.sz_args {v a : Pat} (h : a ∈ v.args) : a.sz < v.sz := by have := pszs_mem h; have := v.sz_eq; omega
inductive OkPat : Pat → Prop
  | mk {k n : Int} {t : List UInt8} {ar : List Pat} {nl : Bool} (hk : IntKind.i64.min ≤ k ∧ k ≤ IntKind.i64.max) (hn : IntKind.i64.min ≤ n ∧ n ≤ IntKind.i64.max) (ht : t.length ≤ bulk) (hnl : nl = true → ar = []) (hl : ar.length ≤ bulk) (ha : ∀ a ∈ ar, OkPat a) : OkPat (.mk k n t ar nl)
theorem OkPat.text {v : Pat} (h : OkPat v) : v.text.length ≤ bulk := by cases h; assumption
theorem OkPat.len {v : Pat} (h : OkPat v) : v.args.length ≤ bulk := by cases h; assumption
theorem OkPat.arg {v a : Pat} (h : OkPat v) (ha : a ∈ v.args) : OkPat a := by cases h; rename_i ha'; exact ha' a ha
mutual
theorem psz_le : ∀ v : Pat, v.sz ≤ vszL (ePat v)
  | .mk k n t ar nl => by have := pszs_le ar; simp only [Pat.sz, ePat, vszL, vsz]; omega
theorem pszs_le : ∀ vs : List Pat, pszs vs ≤ vszLL (ePats vs)
  | [] => by simp [pszs]
  | v :: vs => by have := psz_le v; have := pszs_le vs; simp only [pszs, ePats, vszLL]; omega
end
theorem pPat (v : Pat) : 1 ≤ vszL (ePat v) := by have := psz_le v; have := v.sz_eq; omega
theorem dPat0 : ∀ n, Dec Try.prog 135 ePat OkPat n := by
  intro n
  induction n using Nat.strongRecOn with
  | _ n ih =>
    intro cs hv hb
    obtain ⟨m, rfl, h⟩ := dec_struct (ts := [3, 3, 9, 133]) (by kernel_rfl) hv
    obtain ⟨a0, r0, rfl, _, h0, a1, r1, rfl, _, h1, a2, r2, rfl, _, h2, a3, r3, rfl, _, h3, rfl⟩ := h
    simp only [vszL_append] at hb
    obtain ⟨x0, rfl, q0⟩ := dec_int (n := m) (k := .i64) (by kernel_rfl) _ h0 (by omega)
    obtain ⟨x1, rfl, q1⟩ := dec_int (n := m) (k := .i64) (by kernel_rfl) _ h1 (by omega)
    obtain ⟨x2, rfl, q2⟩ := dec_str (n := m) (by kernel_rfl) _ h2 (by omega)
    obtain ⟨x3, rfl, q3, q4, q5⟩ := dec_slice (n := m) (el := 135) (by kernel_rfl) pPat (fun k hk => ih k (by omega)) _ h3 (by omega)
    exact ⟨.mk x0 x1 x2 x3.1 x3.2, by rw [ePat_eq]; rfl, .mk q0 q1 q2 q3 q4 q5⟩
/-! ### expressions -/
def eNm (s : List UInt8) : List V := [.str s]
theorem pNm (s : List UInt8) : 1 ≤ vszL (eNm s) := by simp only [eNm, vszL, vsz]; omega
abbrev Nms := List (List UInt8) × Bool
def eNmL (x : Nms) : List V := [.sl (x.1.map eNm) x.2 .no]
def oNmL (x : Nms) : Prop := (x.2 = true → x.1 = []) ∧ x.1.length ≤ bulk ∧ ∀ s ∈ x.1, s.length ≤ bulk
theorem pNmL (x : Nms) : 1 ≤ vszL (eNmL x) := by simp only [eNmL, vszL, vsz]; omega
theorem dNmL (n : Nat) : Dec Try.prog 30 eNmL oNmL n := dec_slice (el := 9) (by kernel_rfl) pNm (fun k _ => dec_str (by kernel_rfl))
mutual
inductive Ex where
  | mk (kind num : Int) (text : List UInt8) (names : Nms) (types : Typs) (args : List Ex) (anl : Bool) (arms : List Arm) (mnl : Bool) (at_ : Int)
inductive Arm where
  | mk (pat : Pat) (body : Ex)
end
namespace Ex
def kind : Ex → Int | mk k _ _ _ _ _ _ _ _ _ => k
def num : Ex → Int | mk _ n _ _ _ _ _ _ _ _ => n
def text : Ex → List UInt8 | mk _ _ t _ _ _ _ _ _ _ => t
def names : Ex → Nms | mk _ _ _ n _ _ _ _ _ _ => n
def types : Ex → Typs | mk _ _ _ _ t _ _ _ _ _ => t
def args : Ex → List Ex | mk _ _ _ _ _ a _ _ _ _ => a
def anl : Ex → Bool | mk _ _ _ _ _ _ b _ _ _ => b
def arms : Ex → List Arm | mk _ _ _ _ _ _ _ m _ _ => m
def mnl : Ex → Bool | mk _ _ _ _ _ _ _ _ b _ => b
def pos : Ex → Int | mk _ _ _ _ _ _ _ _ _ a => a
end Ex
namespace Arm
def pat : Arm → Pat | mk p _ => p
def body : Arm → Ex | mk _ b => b
end Arm
instance : Inhabited Ex := ⟨.mk 0 0 [] ([], true) ([], true) [] true [] true 0⟩
mutual
def eEx : Ex → List V | .mk k n t nm ty ar anl ms mnl p => [.int .i64 k, .int .i64 n, .str t, .sl (nm.1.map eNm) nm.2 .no, .sl (ty.1.map eTyp) ty.2 .no, .sl (eExs ar) anl .no, .sl (eArms ms) mnl .no, .int .i64 p]
def eExs : List Ex → List (List V) | [] => [] | v :: vs => eEx v :: eExs vs
def eArm : Arm → List V | .mk p b => ePat p ++ eEx b
def eArms : List Arm → List (List V) | [] => [] | v :: vs => eArm v :: eArms vs
end
theorem eExs_map : ∀ vs, eExs vs = vs.map eEx
  | [] => rfl
  | v :: vs => by rw [eExs, eExs_map vs]; rfl
theorem eArms_map : ∀ vs, eArms vs = vs.map eArm
  | [] => rfl
  | v :: vs => by rw [eArms, eArms_map vs]; rfl
abbrev cEx (v : Ex) : List V := [.int .i64 v.kind, .int .i64 v.num, .str v.text, .sl (v.names.1.map eNm) v.names.2 .no, .sl (v.types.1.map eTyp) v.types.2 .no, .sl (v.args.map eEx) v.anl .no, .sl (v.arms.map eArm) v.mnl .no, .int .i64 v.pos]
theorem eEx_eq (v : Ex) : eEx v = cEx v := by
  cases v; rw [eEx, eExs_map, eArms_map]; rfl
theorem eArm_eq (m : Arm) : eArm m = cPat m.pat ++ cEx m.body := by
  cases m; rw [eArm, ePat_eq, eEx_eq]; rfl
mutual
def Ex.sz : Ex → Nat | .mk _ _ _ _ _ ar _ ms _ _ => 1 + exszs ar + amszs ms
def exszs : List Ex → Nat | [] => 0 | v :: vs => v.sz + exszs vs
def Arm.sz : Arm → Nat | .mk p b => p.sz + b.sz
def amszs : List Arm → Nat | [] => 0 | v :: vs => v.sz + amszs vs
end
theorem Ex.sz_eq (v : Ex) : v.sz = 1 + exszs v.args + amszs v.arms := by cases v; rw [Ex.sz]; rfl
theorem Arm.sz_eq (v : Arm) : v.sz = v.pat.sz + v.body.sz := by cases v; rw [Arm.sz]; rfl
theorem exszs_append : ∀ a b : List Ex, exszs (a ++ b) = exszs a + exszs b
  | [], b => by simp [exszs]
  | v :: a, b => by simp only [List.cons_append, exszs, exszs_append a b]; omega
theorem exszs_len : ∀ vs : List Ex, vs.length ≤ exszs vs
  | [] => by simp [exszs]
  | v :: vs => by have := exszs_len vs; have := v.sz_eq; simp only [exszs, List.length_cons]; omega
theorem amszs_len : ∀ vs : List Arm, vs.length ≤ amszs vs
  | [] => by simp [amszs]
  | v :: vs => by have := amszs_len vs; have := v.sz_eq; have := v.pat.sz_eq; simp only [amszs, List.length_cons]; omega
inductive OkEx : Ex → Prop
  | mk {k n : Int} {t : List UInt8} {nm : Nms} {ty : Typs} {ar : List Ex} {anl : Bool} {ms : List Arm} {mnl : Bool} {p : Int} (hk : IntKind.i64.min ≤ k ∧ k ≤ IntKind.i64.max) (hn : IntKind.i64.min ≤ n ∧ n ≤ IntKind.i64.max) (ht : t.length ≤ bulk) (hnm : oNmL nm) (hty : oTypL ty) (hnl : anl = true → ar = []) (hl : ar.length ≤ bulk) (ha : ∀ a ∈ ar, OkEx a) (hml : mnl = true → ms = []) (hmn : ms.length ≤ bulk) (hp : ∀ m ∈ ms, OkPat m.pat) (hm : ∀ m ∈ ms, OkEx m.body) (hat : IntKind.i64.min ≤ p ∧ p ≤ IntKind.i64.max) : OkEx (.mk k n t nm ty ar anl ms mnl p)
theorem OkEx.types {v : Ex} (h : OkEx v) : oTypL v.types := by cases h; assumption
theorem OkEx.names {v : Ex} (h : OkEx v) : oNmL v.names := by cases h; assumption
theorem OkEx.text {v : Ex} (h : OkEx v) : v.text.length ≤ bulk := by cases h; assumption
theorem OkEx.kind {v : Ex} (h : OkEx v) : IntKind.i64.min ≤ v.kind ∧ v.kind ≤ IntKind.i64.max := by cases h; assumption
theorem OkEx.num {v : Ex} (h : OkEx v) : IntKind.i64.min ≤ v.num ∧ v.num ≤ IntKind.i64.max := by cases h; assumption
theorem OkEx.pos {v : Ex} (h : OkEx v) : IntKind.i64.min ≤ v.pos ∧ v.pos ≤ IntKind.i64.max := by cases h; assumption
theorem OkEx.len {v : Ex} (h : OkEx v) : v.args.length ≤ bulk := by cases h; assumption
theorem OkEx.mlen {v : Ex} (h : OkEx v) : v.arms.length ≤ bulk := by cases h; assumption
theorem OkEx.nil {v : Ex} (h : OkEx v) : v.anl = true → v.args = [] := by cases h; assumption
theorem OkEx.arg {v a : Ex} (h : OkEx v) (ha : a ∈ v.args) : OkEx a := by cases h; rename_i ha' _ _ _ _ _; exact ha' a ha
theorem OkEx.pat {v : Ex} {m : Arm} (h : OkEx v) (hm : m ∈ v.arms) : OkPat m.pat := by cases h; rename_i h1 h2 h3; exact h1 m hm
theorem OkEx.body {v : Ex} {m : Arm} (h : OkEx v) (hm : m ∈ v.arms) : OkEx m.body := by cases h; rename_i h1 h2 h3; exact h2 m hm
def oEx (v : Ex) : Prop := OkEx v ∧ v.sz ≤ bulk
mutual
theorem exsz_le : ∀ v : Ex, v.sz ≤ vszL (eEx v)
  | .mk k n t nm ty ar anl ms mnl p => by have := exszs_le ar; have := amszs_le ms; simp only [Ex.sz, eEx, vszL, vsz]; omega
theorem exszs_le : ∀ vs : List Ex, exszs vs ≤ vszLL (eExs vs)
  | [] => by simp [exszs]
  | v :: vs => by have := exsz_le v; have := exszs_le vs; simp only [exszs, eExs, vszLL]; omega
theorem amsz_le : ∀ v : Arm, v.sz ≤ vszL (eArm v)
  | .mk p b => by have := psz_le p; have := exsz_le b; simp only [Arm.sz, eArm, vszL_append]; omega
theorem amszs_le : ∀ vs : List Arm, amszs vs ≤ vszLL (eArms vs)
  | [] => by simp [amszs]
  | v :: vs => by have := amsz_le v; have := amszs_le vs; simp only [amszs, eArms, vszLL]; omega
end
theorem pEx (v : Ex) : 1 ≤ vszL (eEx v) := by have := exsz_le v; have := v.sz_eq; omega
theorem pArm (v : Arm) : 1 ≤ vszL (eArm v) := by have := amsz_le v; have := v.sz_eq; have := v.pat.sz_eq; omega
theorem dEx0 : ∀ n, Dec Try.prog 121 eEx OkEx n := by
  intro n
  induction n using Nat.strongRecOn with
  | _ n ih =>
    intro cs hv hb
    obtain ⟨m, rfl, h⟩ := dec_struct (ts := [3, 3, 9, 30, 63, 118, 119, 3]) (by kernel_rfl) hv
    obtain ⟨a0, r0, rfl, _, h0, a1, r1, rfl, _, h1, a2, r2, rfl, _, h2, a3, r3, rfl, _, h3, a4, r4, rfl, _, h4, a5, r5, rfl, _, h5, a6, r6, rfl, _, h6, a7, r7, rfl, _, h7, rfl⟩ := h
    simp only [vszL_append] at hb
    obtain ⟨x0, rfl, q0⟩ := dec_int (n := m) (k := .i64) (by kernel_rfl) _ h0 (by omega)
    obtain ⟨x1, rfl, q1⟩ := dec_int (n := m) (k := .i64) (by kernel_rfl) _ h1 (by omega)
    obtain ⟨x2, rfl, q2⟩ := dec_str (n := m) (by kernel_rfl) _ h2 (by omega)
    obtain ⟨x3, rfl, q3⟩ := dNmL m _ h3 (by omega)
    obtain ⟨x4, rfl, q4⟩ := dTypL m _ h4 (by omega)
    obtain ⟨x5, rfl, q5, q6, q7⟩ := dec_slice (n := m) (el := 121) (by kernel_rfl) pEx (fun k hk => ih k (by omega)) _ h5 (by omega)
    obtain ⟨x6, rfl, q8, q9, q10⟩ := dec_slice (n := m) (el := 249) (e := eArm) (o := fun m => OkPat m.pat ∧ OkEx m.body) (by kernel_rfl) pArm (fun k hk => by
      intro cs hv hb
      obtain ⟨m2, rfl, h⟩ := dec_struct (ts := [135, 121]) (by kernel_rfl) hv
      obtain ⟨a0, r0, rfl, _, h0, a1, r1, rfl, _, h1, rfl⟩ := h
      simp only [vszL_append] at hb
      obtain ⟨x0, rfl, q0⟩ := dPat0 m2 _ h0 (by omega)
      obtain ⟨x1, rfl, q1⟩ := ih m2 (by omega) _ h1 (by omega)
      exact ⟨.mk x0 x1, by rw [eArm, List.append_nil], q0, q1⟩) _ h6 (by omega)
    obtain ⟨x7, rfl, q11⟩ := dec_int (n := m) (k := .i64) (by kernel_rfl) _ h7 (by omega)
    exact ⟨.mk x0 x1 x2 x3 x4 x5.1 x5.2 x6.1 x6.2 x7, by rw [eEx_eq]; rfl, .mk q0 q1 q2 q3 q4 q5 q6 q7 q8 q9 (fun m hm => (q10 m hm).1) (fun m hm => (q10 m hm).2) q11⟩
theorem dEx (n : Nat) : Dec Try.prog 121 eEx oEx n := fun cs hv hb => by
  obtain ⟨x, rfl, h⟩ := dEx0 n cs hv hb
  exact ⟨x, rfl, h, Nat.le_trans (exsz_le x) hb⟩
end Go.Proofs.Ytomjghlaoncpbaa

/- slices.Index of texts: what it answers; the condition: fewer than 2^63 elements. -/
set_option linter.unusedSimpArgs false
set_option linter.unusedVariables false
namespace Go.Proofs.Ytomjghlaoncpbaa
open Go.Proofs.YtomjghlaoncpbaaV
set_option maxHeartbeats 400000
set_option maxRecDepth 100000
theorem q_IndexStr (xs : List (List UInt8)) (nl : Bool) (t : Tag) (s : List UInt8) (hx : (xs.length : Int) ≤ 9223372036854775807) :
    Quiet Try.prog 73 [.sl (xs.map eNm) nl t, .str s] (.int .i64 (ixI (xs.findIdx? fun x => decide (s = x)))) := by
  refine Quiet.weak fun G => ?_
  refine acall_body (rs := [.tmp 4]) Try.func73 rfl rfl Try.ntmps73 (by kernel_rfl) (Nat.le_of_ble_eq_true rfl) ?_
  refine aw_sr rfl ?_
  simp only [go_sem, reduceIte, Nat.reduceEqDiff, Nat.reduceAdd, Nat.reduceMul, Nat.reduceSub, Nat.reduceLeDiff, Nat.reduceLT, reduceCtorEq]
  refine aw_seq fun K1 hK1 => ?_
  refine aw_sr rfl ?_
  simp only [go_sem, reduceIte, Nat.reduceEqDiff, Nat.reduceAdd, Nat.reduceMul, Nat.reduceSub, Nat.reduceLeDiff, Nat.reduceLT, reduceCtorEq]
  refine aw_range xs.length (S := Unit) (fun _ _ => [(0, .sl (xs.map eNm) nl t), (1, .str s)]) (fun _ _ => G) (fun i _ => ∀ j (h : j < xs.length), j < i → decide (s = xs[j]) = false) () hx ?_ (fun _ _ h => h) (fun j _ h => absurd h (by omega)) rfl (fun _ _ => rfl) ?_ ?_ (by decide)
  · simp only [go_sem, reduceIte, Nat.reduceEqDiff, Nat.reduceAdd, Nat.reduceMul, Nat.reduceSub, Nat.reduceLeDiff, Nat.reduceLT, reduceCtorEq, Int.natCast_zero]
  · intro i _ hi he
    refine aw_sr rfl ?_
    simp only [go_sem, reduceIte, Nat.reduceEqDiff, Nat.reduceAdd, Nat.reduceMul, Nat.reduceSub, Nat.reduceLeDiff, Nat.reduceLT, reduceCtorEq]
    refine aw_sr rfl ?_
    simp only [go_sem, reduceIte, Nat.reduceEqDiff, Nat.reduceAdd, Nat.reduceMul, Nat.reduceSub, Nat.reduceLeDiff, Nat.reduceLT, reduceCtorEq, getD_map hi, eNm]
    refine ⟨⟨by omega, by omega, wid_map (g := eNm) (fun _ => rfl) _⟩, ?_⟩
    refine aw_if rfl (fun h => ?_) (fun h => ?_)
    · refine aw_sr rfl ?_
      simp only [go_sem, reduceIte, Nat.reduceEqDiff, Nat.reduceAdd, Nat.reduceMul, Nat.reduceSub, Nat.reduceLeDiff, Nat.reduceLT, reduceCtorEq]
      refine aw_ret ⟨trivial, _, rfl, ?_, fun _ _ h => h⟩
      rw [ixI_at hi h (fun j hj => he j (by omega) hj)]
      exact Vle.refl _
    · refine aw_skip ⟨(), fun j hj hlt => ?_, ?_, fun _ _ h => h⟩
      · by_cases e : j = i
        · subst e; exact h
        · exact he j hj (by omega)
      simp only [go_sem, reduceIte, Nat.reduceEqDiff, Nat.reduceAdd, Nat.reduceMul, Nat.reduceSub, Nat.reduceLeDiff, Nat.reduceLT, reduceCtorEq]
  · intro _ he
    refine hK1 _ _ ?_
    refine aw_sr rfl ?_
    simp only [go_sem, reduceIte, Nat.reduceEqDiff, Nat.reduceAdd, Nat.reduceMul, Nat.reduceSub, Nat.reduceLeDiff, Nat.reduceLT, reduceCtorEq]
    refine aw_ret ⟨trivial, _, rfl, ?_, fun _ _ h => h⟩
    rw [ixI_none (fun j hj => he j hj hj)]
    exact Vle.refl _
end Go.Proofs.Ytomjghlaoncpbaa

/- Patterns of a code: how many nodes they have and how many names they bind, by both texts; operators. Conditions: the patterns are data of no more than 1048576 values and letters. -/
set_option linter.unusedSimpArgs false
set_option linter.unusedVariables false
namespace Go.Proofs.Ytomjghlaoncpbaa
open Go.Proofs.YtomjghlaoncpbaaV
set_option maxHeartbeats 400000
set_option maxRecDepth 100000
theorem wid_ePat (ps : List Pat) : wid 4 (ps.map ePat) := wid_map (g := ePat) (fun _ => by rw [ePat_eq]; rfl) _
theorem q_nodes : ∀ (n : Nat) (p : Pat) (most : Int), p.sz ≤ n → OkPat p → QI Try.prog 71 [.agg (cPat p), .int .i64 most] := by
  intro n
  induction n with
  | zero => intro p most h; have := p.sz_eq; omega
  | succ n ih =>
  intro p most hn hp
  have hpl : p.args.length ≤ 1048576 := hp.len
  refine QI.weak fun G => ?_
  refine acall_body (rs := [.tmp 4]) Try.func71 rfl rfl Try.ntmps71 (by kernel_rfl) (Nat.le_of_ble_eq_true rfl) ?_
  refine aw_sr rfl ?_  -- r0 @low.go:44
  simp only [go_sem, reduceIte, Nat.reduceEqDiff, Nat.reduceAdd, Nat.reduceMul, Nat.reduceSub, Nat.reduceLeDiff, Nat.reduceLT, reduceCtorEq]
  intro b2 hb2
  refine aw_box1 hb2 fun B1 hs1 h2 => ?_
  have hsB := hs1
  refine aw_sr rfl ?_  -- r1 @low.go:45
  simp only [go_sem, reduceIte, Nat.reduceEqDiff, Nat.reduceAdd, Nat.reduceMul, Nat.reduceSub, Nat.reduceLeDiff, Nat.reduceLT, reduceCtorEq]
  refine aw_seq fun K2 hK2 => ?_
  refine aw_sr rfl ?_  -- r2 @low.go:46
  simp only [go_sem, reduceIte, Nat.reduceEqDiff, Nat.reduceAdd, Nat.reduceMul, Nat.reduceSub, Nat.reduceLeDiff, Nat.reduceLT, reduceCtorEq, h2]
  refine aw_range p.args.length (S := Int) (fun i st => [(1, .int .i64 most), (5, .int .i64 st), (9, .sl (p.args.map ePat) p.nl .no)]) (fun _ _ => B1) (fun i _ => True) 1 (by omega) ?_ (fun _ _ h => h) trivial rfl (fun _ _ => rfl) ?_ ?_ (by decide)
  · simp only [go_sem, reduceIte, Nat.reduceEqDiff, Nat.reduceAdd, Nat.reduceMul, Nat.reduceSub, Nat.reduceLeDiff, Nat.reduceLT, reduceCtorEq, Int.natCast_zero]
  · intro i m0 hi he
    have ham : p.args[i] ∈ p.args := List.getElem_mem hi
    refine aw_sr rfl ?_  -- r4 @low.go:46
    simp only [go_sem, reduceIte, Nat.reduceEqDiff, Nat.reduceAdd, Nat.reduceMul, Nat.reduceSub, Nat.reduceLeDiff, Nat.reduceLT, reduceCtorEq, getD_map hi, ePat_eq]
    refine ⟨⟨by omega, by omega, wid_ePat _⟩, ?_⟩
    intro b7 hb7
    refine aw_box1 hb7 fun B2 hs2 h7 => ?_
    refine aw_seq fun K3 hK3 => ?_
    refine aw_sr rfl ?_  -- r5 @low.go:47
    simp only [go_sem, reduceIte, Nat.reduceEqDiff, Nat.reduceAdd, Nat.reduceMul, Nat.reduceSub, Nat.reduceLeDiff, Nat.reduceLT, reduceCtorEq]
    refine aw_if rfl (fun h => ?_) (fun h => ?_)
    · refine aw_sr rfl ?_  -- r6 @low.go:48
      simp only [go_sem, reduceIte, Nat.reduceEqDiff, Nat.reduceAdd, Nat.reduceMul, Nat.reduceSub, Nat.reduceLeDiff, Nat.reduceLT, reduceCtorEq]
      exact aw_ret ⟨trivial, _, rfl, ⟨_, Vle.refl _⟩, sub_trans hsB hs2⟩
    refine aw_skip (hK3 _ _ ?_)
    refine aw_rg rfl ?_  -- r7 @low.go:50
    simp only [go_sem, reduceIte, Nat.reduceEqDiff, Nat.reduceAdd, Nat.reduceMul, Nat.reduceSub, Nat.reduceLeDiff, Nat.reduceLT, reduceCtorEq, h7]
    refine goA_qi (ih p.args[i] _ (by have := Pat.sz_args ham; omega) (hp.arg ham)) fun m => ?_
    simp only [go_sem, reduceIte, Nat.reduceEqDiff, Nat.reduceAdd, Nat.reduceMul, Nat.reduceSub, Nat.reduceLeDiff, Nat.reduceLT, reduceCtorEq]
    refine ⟨IntKind.i64.wrap (m0 + m), ?_, hs2⟩
    simp only [go_sem, reduceIte, Nat.reduceEqDiff, Nat.reduceAdd, Nat.reduceMul, Nat.reduceSub, Nat.reduceLeDiff, Nat.reduceLT, reduceCtorEq]
  intro m0 he
  refine hK2 _ _ ?_
  refine aw_sr rfl ?_  -- r9 @low.go:52
  simp only [go_sem, reduceIte, Nat.reduceEqDiff, Nat.reduceAdd, Nat.reduceMul, Nat.reduceSub, Nat.reduceLeDiff, Nat.reduceLT, reduceCtorEq]
  exact aw_ret ⟨trivial, _, rfl, ⟨_, Vle.refl _⟩, hsB⟩
def oPat (v : Pat) : Prop := OkPat v ∧ v.sz ≤ bulk
theorem dPat (n : Nat) : Dec Try.prog 135 ePat oPat n := by
  intro cs hv hb
  obtain ⟨x, rfl, hx⟩ := dPat0 n cs hv hb
  exact ⟨x, rfl, hx, Nat.le_trans (psz_le x) hb⟩
mutual
/-- How many names a pattern binds. -/
def bindsF : Pat → Nat
  | .mk k _ _ ar _ => if k = 2 then 1 else if k = 6 then bindsFs ar else 0
def bindsFs : List Pat → Nat
  | [] => 0
  | p :: ps => bindsF p + bindsFs ps
end
theorem bindsF_eq (p : Pat) : bindsF p = if p.kind = 2 then 1 else if p.kind = 6 then bindsFs p.args else 0 := by cases p; rfl
theorem bindsFs_append : ∀ a b : List Pat, bindsFs (a ++ b) = bindsFs a + bindsFs b
  | [], b => by simp [bindsFs]
  | p :: a, b => by simp only [List.cons_append, bindsFs, bindsFs_append a b]; omega
mutual
theorem binds_le : ∀ p : Pat, bindsF p ≤ p.sz
  | .mk k n t ar nl => by
    rw [bindsF, Pat.sz]
    have := bindss_le ar
    split
    · omega
    · split <;> omega
theorem bindss_le : ∀ ps : List Pat, bindsFs ps ≤ pszs ps
  | [] => by simp [bindsFs]
  | p :: ps => by rw [bindsFs, pszs]; have := binds_le p; have := bindss_le ps; omega
end
theorem q_Binds : ∀ (n : Nat) (p : Pat), p.sz ≤ n → n ≤ 1048576 → OkPat p → Quiet Try.prog 85 [.agg (cPat p)] (.int .i64 (bindsF p)) := by
  intro n
  induction n with
  | zero => intro p h; have := p.sz_eq; omega
  | succ n ih =>
  intro p hn hn2 hp
  have hpl : p.args.length ≤ 1048576 := hp.len
  have hsz := p.sz_eq
  have hE := bindsF_eq p
  refine Quiet.weak fun G => ?_
  refine acall_body (rs := [.tmp 2]) Try.func85 rfl rfl Try.ntmps85 (by kernel_rfl) (Nat.le_of_ble_eq_true rfl) ?_
  refine aw_sr rfl ?_  -- r0 @code.go:132
  simp only [go_sem, reduceIte, Nat.reduceEqDiff, Nat.reduceAdd, Nat.reduceMul, Nat.reduceSub, Nat.reduceLeDiff, Nat.reduceLT, reduceCtorEq]
  intro b1 hb1
  refine aw_box1 hb1 fun B1 hs1 h1 => ?_
  have hsB := hs1
  refine aw_seq fun K4 hK4 => ?_
  refine aw_sr rfl ?_  -- r1 @code.go:133
  simp only [go_sem, reduceIte, Nat.reduceEqDiff, Nat.reduceAdd, Nat.reduceMul, Nat.reduceSub, Nat.reduceLeDiff, Nat.reduceLT, reduceCtorEq, h1]
  refine aw_if rfl (fun h => ?_) (fun h => ?_)
  · have h : p.kind = 2 := by simpa using h
    refine aw_sr rfl ?_  -- r2 @code.go:134
    simp only [go_sem, reduceIte, Nat.reduceEqDiff, Nat.reduceAdd, Nat.reduceMul, Nat.reduceSub, Nat.reduceLeDiff, Nat.reduceLT, reduceCtorEq]
    refine aw_ret ⟨trivial, _, rfl, ?_, hsB⟩
    rw [hE, if_pos h]
    exact Vle.refl _
  have h2 : ¬ p.kind = 2 := by simpa using h
  rw [if_neg h2] at hE
  refine aw_skip (hK4 _ _ ?_)
  refine aw_sr rfl ?_  -- r3 @code.go:136
  simp only [go_sem, reduceIte, Nat.reduceEqDiff, Nat.reduceAdd, Nat.reduceMul, Nat.reduceSub, Nat.reduceLeDiff, Nat.reduceLT, reduceCtorEq]
  refine aw_mid (fun f' G' => FSub [(3, .int .i64 (bindsF p))] f' ∧ G' = B1) ?_ ?_
  · -- 2 ways
    refine aw_sr rfl ?_  -- r4 @code.go:137
    simp only [go_sem, reduceIte, Nat.reduceEqDiff, Nat.reduceAdd, Nat.reduceMul, Nat.reduceSub, Nat.reduceLeDiff, Nat.reduceLT, reduceCtorEq, h1]
    refine aw_if rfl (fun h => ?_) (fun h => ?_)
    · have h : p.kind = 6 := by simpa using h
      rw [if_pos h] at hE
      refine aw_sr rfl ?_  -- r5 @code.go:138
      simp only [go_sem, reduceIte, Nat.reduceEqDiff, Nat.reduceAdd, Nat.reduceMul, Nat.reduceSub, Nat.reduceLeDiff, Nat.reduceLT, reduceCtorEq, h1]
      refine aw_range p.args.length (S := Unit) (fun i _ => [(3, .int .i64 (bindsFs (p.args.take i))), (13, .sl (p.args.map ePat) p.nl .no)]) (fun _ _ => B1) (fun i _ => True) () (by omega) ?_ (fun _ _ h => h) trivial rfl (fun _ _ => rfl) ?_ ?_ (by decide)
      · simp only [go_sem, reduceIte, Nat.reduceEqDiff, Nat.reduceAdd, Nat.reduceMul, Nat.reduceSub, Nat.reduceLeDiff, Nat.reduceLT, reduceCtorEq, Int.natCast_zero]
        rfl
      · intro i _ hi he
        have ham : p.args[i] ∈ p.args := List.getElem_mem hi
        have h3 := Pat.sz_args ham
        have h4 := bindss_le (p.args.take (i + 1))
        have h5 : pszs (p.args.take (i + 1)) ≤ pszs p.args := by
          conv => rhs; rw [← List.take_append_drop (i + 1) p.args, pszs_append]
          omega
        have hstep : bindsFs (p.args.take (i + 1)) = bindsFs (p.args.take i) + bindsF p.args[i] := by
          rw [List.take_succ_eq_append_getElem hi, bindsFs_append]; simp [bindsFs]
        have hw : IntKind.i64.wrap ((bindsFs (p.args.take i) : Int) + (bindsF p.args[i] : Int)) = (bindsFs (p.args.take (i + 1)) : Nat) := by
          rw [wrap64 (by omega) (by omega), hstep]; omega
        refine aw_sr rfl ?_  -- r7 @code.go:138
        simp only [go_sem, reduceIte, Nat.reduceEqDiff, Nat.reduceAdd, Nat.reduceMul, Nat.reduceSub, Nat.reduceLeDiff, Nat.reduceLT, reduceCtorEq, getD_map hi, ePat_eq]
        refine ⟨⟨by omega, by omega, wid_ePat _⟩, ?_⟩
        intro b5 hb5
        refine aw_box1 hb5 fun B2 hs2 h5 => ?_
        refine aw_rg rfl ?_  -- r8 @code.go:139
        simp only [go_sem, reduceIte, Nat.reduceEqDiff, Nat.reduceAdd, Nat.reduceMul, Nat.reduceSub, Nat.reduceLeDiff, Nat.reduceLT, reduceCtorEq, h5]
        refine goA_q (ih p.args[i] (by omega) (by omega) (hp.arg ham)) ?_
        simp only [go_sem, reduceIte, Nat.reduceEqDiff, Nat.reduceAdd, Nat.reduceMul, Nat.reduceSub, Nat.reduceLeDiff, Nat.reduceLT, reduceCtorEq, hw]
        refine ⟨(), ?_, hs2⟩
        simp only [go_sem, reduceIte, Nat.reduceEqDiff, Nat.reduceAdd, Nat.reduceMul, Nat.reduceSub, Nat.reduceLeDiff, Nat.reduceLT, reduceCtorEq]
      intro _ he
      rw [List.take_length, ← hE]
      exact ⟨rfl, rfl⟩
    · have h : ¬ p.kind = 6 := by simpa using h
      rw [if_neg h] at hE
      rw [hE]
      exact aw_skip ⟨rfl, rfl⟩
  intro f' G' ⟨hf, hg⟩
  rw [hg]
  refine AW.of_fsub hf ?_
  refine aw_sr rfl ?_  -- r10 @code.go:142
  simp only [go_sem, reduceIte, Nat.reduceEqDiff, Nat.reduceAdd, Nat.reduceMul, Nat.reduceSub, Nat.reduceLeDiff, Nat.reduceLT, reduceCtorEq]
  exact aw_ret ⟨trivial, _, rfl, Vle.refl _, hsB⟩
/-- The reference's: by a queue. -/
theorem q_rBinds (p : Pat) (hn : p.sz ≤ 1048576) (hp : OkPat p) : Quiet Try.prog 86 [.agg (cPat p)] (.int .i64 (bindsF p)) := by
  refine Quiet.weak fun G => ?_
  refine acall_body (rs := [.tmp 2]) Try.func86 rfl rfl Try.ntmps86 (by kernel_rfl) (Nat.le_of_ble_eq_true rfl) ?_
  refine aw_sr rfl ?_  -- r0 @low.go:121
  simp only [go_sem, reduceIte, Nat.reduceEqDiff, Nat.reduceAdd, Nat.reduceMul, Nat.reduceSub, Nat.reduceLeDiff, Nat.reduceLT, reduceCtorEq]
  intro b1 hb1
  refine aw_box1 hb1 fun B1 hs1 h1 => ?_
  have hsB := hs1
  refine aw_sr rfl ?_  -- r1 @low.go:122
  simp only [go_sem, reduceIte, Nat.reduceEqDiff, Nat.reduceAdd, Nat.reduceMul, Nat.reduceSub, Nat.reduceLeDiff, Nat.reduceLT, reduceCtorEq]
  refine aw_sr rfl ?_  -- r2 @low.go:123
  simp only [go_sem, reduceIte, Nat.reduceEqDiff, Nat.reduceAdd, Nat.reduceMul, Nat.reduceSub, Nat.reduceLeDiff, Nat.reduceLT, reduceCtorEq, h1]
  refine aw_seq fun K5 hK5 => ?_
  refine aw_block ?_  -- 0
  refine aw_lph (S := {s : Nat × List Pat × Tag × Heap // s.1 + bindsFs s.2.1 = bindsF p ∧ pszs s.2.1 ≤ p.sz ∧ (∀ q ∈ s.2.1, OkPat q) ∧ Rm G s.2.2.2 4 s.2.2.1 ∧ Sub G s.2.2.2}) (fun s => [(3, .int .i64 s.1.1), (4, .sl (s.1.2.1.map ePat) false s.1.2.2.1)]) (fun s => s.1.2.2.2) (fun s => pszs s.1.2.1)
    ⟨(0, [p], .full, B1), by simp [bindsFs], by simp [pszs], by simpa using hp, Rm.start _ _ _, hsB⟩ ?_ (fun _ _ h => h) ?_
  · simp only [go_sem, reduceIte, Nat.reduceEqDiff, Nat.reduceAdd, Nat.reduceMul, Nat.reduceSub, Nat.reduceLeDiff, Nat.reduceLT, reduceCtorEq, Int.natCast_zero]
    rw [List.map_cons, ePat_eq]; rfl
  intro ⟨⟨n, todo, tg, H⟩, hsum, hpz, hok, hr, hs⟩
  simp only at hsum hpz hok hr hs ⊢
  have hle : todo.length ≤ 1048576 := by
    have h1 : ∀ l : List Pat, l.length ≤ pszs l := fun l => by
      induction l with
      | nil => simp [pszs]
      | cons a l ih => rw [pszs, List.length_cons]; have := a.sz_eq; omega
    have := h1 todo
    omega
  refine aw_seq fun K6 hK6 => ?_
  refine aw_sr rfl ?_  -- r3 @low.go:124
  simp only [go_sem, reduceIte, Nat.reduceEqDiff, Nat.reduceAdd, Nat.reduceMul, Nat.reduceSub, Nat.reduceLeDiff, Nat.reduceLT, reduceCtorEq]
  refine aw_if rfl (fun h => ?_) (fun h => ?_)
  · obtain ⟨q, rest, rfl⟩ : ∃ q rest, todo = q :: rest := by
      cases todo with
      | nil => simp at h
      | cons q rest => exact ⟨q, rest, rfl⟩
    have hq := hok q (by simp)
    have hle' : rest.length + 1 ≤ 1048576 := by simpa using hle
    have hql : q.args.length ≤ 1048576 := hq.len
    have hqsz := q.sz_eq
    simp only [pszs] at hpz
    rw [bindsFs, bindsF_eq q] at hsum
    have hbn := binds_le p
    refine aw_skip (hK6 _ _ ?_)
    refine aw_block ?_  -- 1
    refine aw_sr rfl ?_  -- r4 @low.go:125
    simp only [go_sem, reduceIte, Nat.reduceEqDiff, Nat.reduceAdd, Nat.reduceMul, Nat.reduceSub, Nat.reduceLeDiff, Nat.reduceLT, reduceCtorEq, List.map_cons, ePat_eq, Int.toNat_zero, List.getD_cons_zero]
    refine ⟨⟨by omega, by omega, by rw [← ePat_eq, ← List.map_cons]; exact wid_ePat _⟩, ?_⟩
    intro b5 hb5
    refine aw_box1 hb5 fun B2 hs2 h5 => ?_
    replace hr := hr.sub hs2
    replace hs := sub_trans hs hs2
    refine aw_sr rfl ?_  -- r5 @low.go:126
    simp only [go_sem, reduceIte, Nat.reduceEqDiff, Nat.reduceAdd, Nat.reduceMul, Nat.reduceSub, Nat.reduceLeDiff, Nat.reduceLT, reduceCtorEq, toNat1, take_map_len, hr.slice]
    refine ⟨⟨⟨by omega, by omega⟩, by rw [← ePat_eq, ← List.map_cons]; exact wid_ePat _⟩, ?_⟩
    have hsum' : n + (if q.kind = 2 then 1 else 0) + bindsFs (rest ++ (if q.kind = 6 then q.args else [])) = bindsF p := by
      rw [bindsFs_append]
      by_cases h2 : q.kind = 2
      · rw [if_pos h2] at hsum ⊢
        rw [if_neg (by omega)]
        simp [bindsFs]; omega
      · rw [if_neg h2] at hsum ⊢
        by_cases h6 : q.kind = 6
        · rw [if_pos h6] at hsum ⊢; omega
        · rw [if_neg h6] at hsum ⊢; simp [bindsFs]; omega
    refine aw_mid (fun f' G' => FSub [(3, .int .i64 ((n + (if q.kind = 2 then 1 else 0) : Nat) : Int)), (4, .sl (rest.map ePat) false tg), (5, .ptr b5 0)] f' ∧ G' = B2) ?_ ?_
    · refine aw_sr rfl ?_  -- r6 @low.go:127
      simp only [go_sem, reduceIte, Nat.reduceEqDiff, Nat.reduceAdd, Nat.reduceMul, Nat.reduceSub, Nat.reduceLeDiff, Nat.reduceLT, reduceCtorEq, h5]
      refine aw_if rfl (fun h => ?_) (fun h => ?_)
      · have h : q.kind = 2 := by simpa using h
        refine aw_rg rfl ?_  -- r7 @low.go:128
        simp only [go_sem, reduceIte, Nat.reduceEqDiff, Nat.reduceAdd, Nat.reduceMul, Nat.reduceSub, Nat.reduceLeDiff, Nat.reduceLT, reduceCtorEq, show IntKind.i64.wrap ((n : Int) + 1) = ((n + (if q.kind = 2 then 1 else 0) : Nat) : Int) by rw [if_pos h, wrap64 (by omega) (by omega)]; omega]
        exact ⟨⟨rfl, rfl, rfl⟩, rfl⟩
      · have h : ¬ q.kind = 2 := by simpa using h
        rw [if_neg h]
        exact aw_skip ⟨⟨rfl, rfl, rfl⟩, rfl⟩
    intro f' G' ⟨hf, hg⟩
    rw [hg]
    refine AW.of_fsub hf ?_
    refine aw_sr rfl ?_  -- r8 @low.go:130
    simp only [go_sem, reduceIte, Nat.reduceEqDiff, Nat.reduceAdd, Nat.reduceMul, Nat.reduceSub, Nat.reduceLeDiff, Nat.reduceLT, reduceCtorEq, h5]
    refine aw_if rfl (fun h => ?_) (fun h => ?_)
    · have h : q.kind = 6 := by simpa using h
      rw [if_pos h] at hsum'
      refine aw_rg rfl ?_  -- r9 @low.go:131
      simp only [go_sem, reduceIte, Nat.reduceEqDiff, Nat.reduceAdd, Nat.reduceMul, Nat.reduceSub, Nat.reduceLeDiff, Nat.reduceLT, reduceCtorEq, h5]
      refine goP_rm hr hs ?_ fun t' H' hr' hs' hg => ?_
      · exact ⟨rfl, rfl, by decide, wid_ePat _, wid_ePat _, sca_map (g := ePat) (fun a => by rw [ePat_eq]; simp [scalarV]) _, by simp; omega, by simp; omega⟩
      simp only [go_sem, reduceIte, Nat.reduceEqDiff, Nat.reduceAdd, Nat.reduceMul, Nat.reduceSub, Nat.reduceLeDiff, Nat.reduceLT, reduceCtorEq, Bool.false_and, ← List.map_append]
      refine ⟨⟨(n + (if q.kind = 2 then 1 else 0), rest ++ q.args, t', H'), hsum', by simp only [pszs_append]; omega, ?_, hr', hs'⟩, ?_, ?_, sub_rfl⟩
      · intro a ha
        rcases List.mem_append.1 ha with ha | ha
        · exact hok a (by simp [ha])
        · exact hq.arg ha
      · simp only [pszs, pszs_append]; omega
      · simp only [go_sem, reduceIte, Nat.reduceEqDiff, Nat.reduceAdd, Nat.reduceMul, Nat.reduceSub, Nat.reduceLeDiff, Nat.reduceLT, reduceCtorEq]
    · have h : ¬ q.kind = 6 := by simpa using h
      rw [if_neg h, List.append_nil] at hsum'
      refine aw_skip ⟨⟨(n + (if q.kind = 2 then 1 else 0), rest, tg, B2), hsum', by show pszs rest ≤ _; omega, fun a ha => hok a (by simp [ha]), hr, hs⟩, ?_, ?_, sub_rfl⟩
      · simp only [pszs]; omega
      · simp only [go_sem, reduceIte, Nat.reduceEqDiff, Nat.reduceAdd, Nat.reduceMul, Nat.reduceSub, Nat.reduceLeDiff, Nat.reduceLT, reduceCtorEq]
  have hnil : todo = [] := by
    cases todo with
    | nil => rfl
    | cons q rest => simp at h
  subst hnil
  refine aw_exit ?_  -- 0
  refine hK5 _ _ ?_
  refine aw_sr rfl ?_  -- r10 @low.go:134
  simp only [go_sem, reduceIte, Nat.reduceEqDiff, Nat.reduceAdd, Nat.reduceMul, Nat.reduceSub, Nat.reduceLeDiff, Nat.reduceLT, reduceCtorEq]
  refine aw_ret ⟨trivial, _, rfl, ?_, hs⟩
  rw [← hsum]
  exact Vle.refl _
/-! ### operators -/
def opNames : List (List UInt8) := [[43], [45], [42], [47], [37], [60], [61], [94], [110, 111, 116]]
theorem q_Names : Quiet Try.prog 123 [] (.sl (opNames.map eNm) false .no) := by
  refine Quiet.weak fun G => ?_
  refine acall_body (rs := [.tmp 0]) Try.func123 rfl rfl Try.ntmps123 (by kernel_rfl) (Nat.le_of_ble_eq_true rfl) ?_
  refine aw_sr rfl ?_
  simp only [go_sem, reduceIte, Nat.reduceEqDiff, Nat.reduceAdd, Nat.reduceMul, Nat.reduceSub, Nat.reduceLeDiff, Nat.reduceLT, reduceCtorEq]
  refine aw_sr rfl ?_
  simp only [go_sem, reduceIte, Nat.reduceEqDiff, Nat.reduceAdd, Nat.reduceMul, Nat.reduceSub, Nat.reduceLeDiff, Nat.reduceLT, reduceCtorEq]
  exact aw_ret ⟨trivial, _, rfl, Vle.untag, sub_rfl⟩
/-- The number of an operator. -/
def opV : Option Nat → V
  | none => .tup [.int .i64 0, .int .i64 4]
  | some i => .tup [.int .i64 (i : Nat), .int .i64 0]
theorem q_Operator (op : List UInt8) : Quiet Try.prog 72 [.str op] (opV (opNames.findIdx? fun x => decide (op = x))) := by
  refine Quiet.weak fun G => ?_
  refine acall_body (rs := [.tmp 2, .tmp 3]) Try.func72 rfl rfl Try.ntmps72 (by kernel_rfl) (Nat.le_of_ble_eq_true rfl) ?_
  refine aw_sr rfl ?_  -- r0 @code.go:93
  simp only [go_sem, reduceIte, Nat.reduceEqDiff, Nat.reduceAdd, Nat.reduceMul, Nat.reduceSub, Nat.reduceLeDiff, Nat.reduceLT, reduceCtorEq]
  refine aw_seq fun K1 hK1 => ?_
  refine aw_sr rfl ?_  -- r1 @code.go:94
  simp only [go_sem, reduceIte, Nat.reduceEqDiff, Nat.reduceAdd, Nat.reduceMul, Nat.reduceSub, Nat.reduceLeDiff, Nat.reduceLT, reduceCtorEq]
  refine goA_q q_Names ?_
  simp only [go_sem, reduceIte, Nat.reduceEqDiff, Nat.reduceAdd, Nat.reduceMul, Nat.reduceSub, Nat.reduceLeDiff, Nat.reduceLT, reduceCtorEq]
  refine aw_range opNames.length (S := Unit) (fun i _ => [(0, .str op), (6, .sl (opNames.map eNm) false .no)]) (fun _ _ => G) (fun i _ => ∀ j (h : j < opNames.length), j < i → decide (op = opNames[j]) = false) () (by decide) ?_ (fun _ _ h => h) (fun j _ hj => absurd hj (by omega)) rfl (fun _ _ => rfl) ?_ ?_ (by decide)
  · simp only [go_sem, reduceIte, Nat.reduceEqDiff, Nat.reduceAdd, Nat.reduceMul, Nat.reduceSub, Nat.reduceLeDiff, Nat.reduceLT, reduceCtorEq, Int.natCast_zero]
  · intro i _ hi he
    refine aw_sr rfl ?_  -- r3 @code.go:94
    simp only [go_sem, reduceIte, Nat.reduceEqDiff, Nat.reduceAdd, Nat.reduceMul, Nat.reduceSub, Nat.reduceLeDiff, Nat.reduceLT, reduceCtorEq, getD_map hi, eNm]
    refine ⟨⟨by omega, by omega, wid_map (g := eNm) (fun _ => rfl) _⟩, ?_⟩
    refine aw_sr rfl ?_  -- r4 @code.go:95
    simp only [go_sem, reduceIte, Nat.reduceEqDiff, Nat.reduceAdd, Nat.reduceMul, Nat.reduceSub, Nat.reduceLeDiff, Nat.reduceLT, reduceCtorEq]
    refine aw_if rfl (fun h => ?_) (fun h => ?_)
    · have h : decide (op = opNames[i]) = true := by rw [decide_eq_true_eq]; simpa [eq_comm] using h
      refine aw_sr rfl ?_  -- r5 @code.go:96
      simp only [go_sem, reduceIte, Nat.reduceEqDiff, Nat.reduceAdd, Nat.reduceMul, Nat.reduceSub, Nat.reduceLeDiff, Nat.reduceLT, reduceCtorEq]
      refine aw_ret ⟨trivial, _, rfl, ?_, sub_rfl⟩
      have : opNames.findIdx? (fun x => decide (op = x)) = some i := List.findIdx?_eq_some_iff_getElem.2 ⟨hi, h, fun j hj => by rw [he j (by omega) hj]; simp⟩
      rw [this]
      exact Vle.refl _
    have h : decide (op = opNames[i]) = false := by rw [decide_eq_false_iff_not]; simpa [eq_comm] using h
    refine aw_skip ⟨(), fun j hj hlt => ?_, ?_, sub_rfl⟩
    · by_cases e : j = i
      · subst e; exact h
      · exact he j hj (by omega)
    simp only [go_sem, reduceIte, Nat.reduceEqDiff, Nat.reduceAdd, Nat.reduceMul, Nat.reduceSub, Nat.reduceLeDiff, Nat.reduceLT, reduceCtorEq]
  intro _ he
  refine hK1 _ _ ?_
  refine aw_sr rfl ?_  -- r7 @code.go:99
  simp only [go_sem, reduceIte, Nat.reduceEqDiff, Nat.reduceAdd, Nat.reduceMul, Nat.reduceSub, Nat.reduceLeDiff, Nat.reduceLT, reduceCtorEq]
  refine aw_ret ⟨trivial, _, rfl, ?_, sub_rfl⟩
  have : opNames.findIdx? (fun x => decide (op = x)) = none := List.findIdx?_eq_none_iff.2 fun x hx => by
    obtain ⟨j, hj, rfl⟩ := List.getElem_of_mem hx
    exact he j hj hj
  rw [this]
  exact Vle.refl _
end Go.Proofs.Ytomjghlaoncpbaa

/- The arguments of 'roadlaw1.CodeTells' as data; no conditions. -/
set_option linter.unusedVariables false
set_option maxRecDepth 100000
namespace Go.Proofs.Ytomjghlaoncpbaa.codeTells
open Go.RowKit Go.Proofs.YtomjghlaoncpbaaV
def e3 (x : Int) : List V := [.int .i64 x]
def o3 (x : Int) : Prop := IntKind.i64.min ≤ x ∧ x ≤ IntKind.i64.max
theorem d3 (n : Nat) : Dec Try.prog 3 e3 o3 n := dec_int (by kernel_rfl)
theorem p3 (x : Int) : 1 ≤ vszL (e3 x) := by simp only [e3, vszL, vsz]; omega
abbrev D47 := List Int × Bool
def e47 (x : D47) : List V := [.sl (x.1.map e3) x.2 .no]
def o47 (x : D47) : Prop := OkS o3 x
theorem d47 (n : Nat) : Dec Try.prog 47 e47 o47 n := dec_slice (el := 3) (by kernel_rfl) p3 (fun m _ => d3 m)
theorem p47 (x : D47) : 1 ≤ vszL (e47 x) := by simp only [e47, vszL, vsz]; omega
abbrev D132 := Int × Int × Int × Int × D47
def e132 (x : D132) : List V := [.int .i64 x.1, .int .i64 x.2.1, .int .i64 x.2.2.1, .int .i64 x.2.2.2.1, .sl (x.2.2.2.2.1.map e3) x.2.2.2.2.2 .no]
def o132 (x : D132) : Prop := o3 x.1 ∧ o3 x.2.1 ∧ o3 x.2.2.1 ∧ o3 x.2.2.2.1 ∧ o47 x.2.2.2.2
theorem d132 (n : Nat) : Dec Try.prog 132 e132 o132 n := by
  intro cs hv hb
  obtain ⟨m, rfl, h⟩ := dec_struct (ts := [3, 3, 3, 3, 47]) (by kernel_rfl) hv
  obtain ⟨a0, r0, rfl, _, h0, a1, r1, rfl, _, h1, a2, r2, rfl, _, h2, a3, r3, rfl, _, h3, a4, r4, rfl, _, h4, rfl⟩ := h
  simp only [vszL_append] at hb
  obtain ⟨x0, rfl, q0⟩ := d3 m _ h0 (by omega)
  obtain ⟨x1, rfl, q1⟩ := d3 m _ h1 (by omega)
  obtain ⟨x2, rfl, q2⟩ := d3 m _ h2 (by omega)
  obtain ⟨x3, rfl, q3⟩ := d3 m _ h3 (by omega)
  obtain ⟨x4, rfl, q4⟩ := d47 m _ h4 (by omega)
  exact ⟨(x0, x1, x2, x3, x4), rfl, q0, q1, q2, q3, q4⟩
theorem p132 (x : D132) : 1 ≤ vszL (e132 x) := by simp only [e132, vszL, vsz]; omega
abbrev e135 := ePat
abbrev o135 := oPat
theorem d135 (n : Nat) : Dec Try.prog 135 e135 o135 n := dPat n
theorem p135 (x : Pat) : 1 ≤ vszL (e135 x) := pPat x
def e9 (x : (List UInt8)) : List V := [.str x]
def o9 (x : (List UInt8)) : Prop := x.length ≤ bulk
theorem d9 (n : Nat) : Dec Try.prog 9 e9 o9 n := dec_str (by kernel_rfl)
theorem p9 (x : (List UInt8)) : 1 ≤ vszL (e9 x) := by simp only [e9, vszL, vsz]; omega
theorem args {xs : List V} (h : TyAll Try.prog [132, 3, 135, 9] xs) (hs : vszL xs ≤ 1048576) : ∃ (x0 : D132) (x1 : Int) (x2 : Pat) (x3 : (List UInt8)), xs = [.agg (e132 x0), .int .i64 x1, .agg (e135 x2), .str x3] ∧ o132 x0 ∧ o3 x1 ∧ o135 x2 ∧ o9 x3 := by
  obtain ⟨y0, r0, rfl, h0, y1, r1, rfl, h1, y2, r2, rfl, h2, y3, r3, rfl, h3, rfl⟩ := h
  simp only [vszL] at hs
  obtain ⟨x0, rfl, q0⟩ := dec_agg (by kernel_rfl) d132 h0 (by show vsz _ ≤ 1048576; omega)
  obtain ⟨x1, g1, q1⟩ := dec_one (by kernel_rfl) d3 h1 (by show vsz _ ≤ 1048576; omega)
  obtain ⟨x2, rfl, q2⟩ := dec_agg (by kernel_rfl) d135 h2 (by show vsz _ ≤ 1048576; omega)
  obtain ⟨x3, g3, q3⟩ := dec_one (by kernel_rfl) d9 h3 (by show vsz _ ≤ 1048576; omega)
  cases g1
  cases g3
  exact ⟨x0, x1, x2, x3, rfl, q0, q1, q2, q3⟩
end Go.Proofs.Ytomjghlaoncpbaa.codeTells

set_option linter.unusedSimpArgs false
set_option linter.unusedVariables false
namespace Go.Proofs.Ytomjghlaoncpbaa.codeTells
open Go.Proofs.YtomjghlaoncpbaaV
set_option maxHeartbeats 400000
set_option maxRecDepth 100000
theorem law (x0 : D132) (at_ : Int) (p : Pat) (op : List UInt8) (q0 : o132 x0) (q1 : o3 at_) (q2 : oPat p) (q3 : o9 op) : Quiet Try.prog 13 [.agg (e132 x0), .int .i64 at_, .agg (ePat p), .str op] (.bool true) := by
  obtain ⟨io, a, b, c, args, nl⟩ := x0
  obtain ⟨_, _, _, _, _, hal, _⟩ := q0
  have hal : args.length ≤ 1048576 := hal
  have hpz : p.sz ≤ 1048576 := q2.2
  refine Quiet.weak fun G => ?_
  refine acall_body (rs := [.tmp 8]) Try.func13 rfl rfl Try.ntmps13 (by kernel_rfl) (Nat.le_of_ble_eq_true rfl) ?_
  refine aw_sr rfl ?_  -- r0 @low.go:76
  simp only [go_sem, reduceIte, Nat.reduceEqDiff, Nat.reduceAdd, Nat.reduceMul, Nat.reduceSub, Nat.reduceLeDiff, Nat.reduceLT, reduceCtorEq]
  intro b4 hb4 b6 hb6
  refine aw_box2 hb4 hb6 fun B1 hsB h4 h6 _ _ => ?_
  rw [show e132 (io, a, b, c, args, nl) = cIns io a b c args nl from rfl] at h4
  rw [show ePat p = cPat p from ePat_eq p] at h6
  refine aw_seq fun K1 hK1 => ?_
  refine aw_sr rfl ?_  -- r1 @low.go:77
  simp only [go_sem, reduceIte, Nat.reduceEqDiff, Nat.reduceAdd, Nat.reduceMul, Nat.reduceSub, Nat.reduceLeDiff, Nat.reduceLT, reduceCtorEq, h4, h6]
  refine goH_qi (fun hg => q_nodes p.sz p 50 (Nat.le_refl _) q2.1) fun m => ?_
  simp only [go_sem, reduceIte, Nat.reduceEqDiff, Nat.reduceAdd, Nat.reduceMul, Nat.reduceSub, Nat.reduceLeDiff, Nat.reduceLT, reduceCtorEq]
  refine aw_if rfl (fun h => ?_) (fun h => ?_)
  · refine aw_sr rfl ?_  -- r2 @low.go:78
    simp only [go_sem, reduceIte, Nat.reduceEqDiff, Nat.reduceAdd, Nat.reduceMul, Nat.reduceSub, Nat.reduceLeDiff, Nat.reduceLT, reduceCtorEq]
    exact aw_ret ⟨trivial, _, rfl, Vle.refl _, hsB⟩
  have hat : 0 ≤ at_ ∧ at_ ≤ 1099511627776 := by
    simp only [Bool.or_eq_false_iff, decide_eq_false_iff_not] at h
    omega
  clear h
  refine aw_skip (hK1 _ _ ?_)
  refine aw_sr rfl ?_  -- r3 @low.go:80
  simp only [go_sem, reduceIte, Nat.reduceEqDiff, Nat.reduceAdd, Nat.reduceMul, Nat.reduceSub, Nat.reduceLeDiff, Nat.reduceLT, reduceCtorEq]
  refine goA_q (q_Operator op) ?_
  have hI := q_IndexStr opNames false .full op (by decide)
  have hfix : ∃ n e : Int, opV (opNames.findIdx? fun x => decide (op = x)) = .tup [.int .i64 n, .int .i64 e] ∧ ((e = 4 ∧ ixI (opNames.findIdx? fun x => decide (op = x)) < 0) ∨ (e = 0 ∧ 0 ≤ ixI (opNames.findIdx? fun x => decide (op = x)) ∧ n = ixI (opNames.findIdx? fun x => decide (op = x)))) := by
    cases opNames.findIdx? fun x => decide (op = x) with
    | none => exact ⟨0, 4, rfl, .inl ⟨rfl, by decide⟩⟩
    | some i => exact ⟨(i : Nat), 0, rfl, .inr ⟨rfl, by simp [ixI], rfl⟩⟩
  obtain ⟨n, e, he, hcase⟩ := hfix
  rw [he]
  generalize ixI (opNames.findIdx? fun x => decide (op = x)) = k at hI hcase
  simp only [go_sem, reduceIte, Nat.reduceEqDiff, Nat.reduceAdd, Nat.reduceMul, Nat.reduceSub, Nat.reduceLeDiff, Nat.reduceLT, reduceCtorEq]
  refine aw_sr rfl ?_  -- r4 @low.go:81
  simp only [go_sem, reduceIte, Nat.reduceEqDiff, Nat.reduceAdd, Nat.reduceMul, Nat.reduceSub, Nat.reduceLeDiff, Nat.reduceLT, reduceCtorEq]
  refine goA_q hI ?_
  simp only [go_sem, reduceIte, Nat.reduceEqDiff, Nat.reduceAdd, Nat.reduceMul, Nat.reduceSub, Nat.reduceLeDiff, Nat.reduceLT, reduceCtorEq]
  refine aw_seq fun K2 hK2 => ?_
  refine aw_sr rfl ?_  -- r5 @low.go:82
  simp only [go_sem, reduceIte, Nat.reduceEqDiff, Nat.reduceAdd, Nat.reduceMul, Nat.reduceSub, Nat.reduceLeDiff, Nat.reduceLT, reduceCtorEq]
  refine aw_if (b := false) ?_ (fun h => by cases h) (fun h => ?_)
  · simp only [go_sem, reduceIte, Nat.reduceEqDiff, Nat.reduceAdd, Nat.reduceMul, Nat.reduceSub, Nat.reduceLeDiff, Nat.reduceLT, reduceCtorEq]
    rcases hcase with ⟨rfl, hk⟩ | ⟨rfl, hk, rfl⟩
    · simp [hk]
    · simp; try omega
  refine aw_skip (hK2 _ _ ?_)
  obtain ⟨y1, hy1⟩ := gatV_fst (.int .i64 3) (.int .i64 0) (gatF args)
  refine aw_sr rfl ?_  -- r7 @low.go:85
  simp only [go_sem, reduceIte, Nat.reduceEqDiff, Nat.reduceAdd, Nat.reduceMul, Nat.reduceSub, Nat.reduceLeDiff, Nat.reduceLT, reduceCtorEq, h4]
  refine goA_q (q_Gather args nl .no hal) ?_
  have hgl := gatF_len args
  have hgr := gatF_regs args
  have hfix2 : ∃ (x : List Ar) (ee : Int) (ok : Bool), gatV (.int .i64 3) (.int .i64 0) (gatF args) = .tup [ars x, .int .i64 ee] ∧ gatV (.bool false) (.bool true) (gatF args) = .tup [ars x, .bool ok] ∧ (ok = decide (ee = 0)) ∧ x.length ≤ 1048576 ∧ ∀ a ∈ x, a.2.length ≤ 1048576 := by
    cases hg : gatF args with
    | none => exact ⟨[], 3, false, rfl, rfl, rfl, by simp, by simp⟩
    | some x =>
      rw [hg] at hgl hgr
      exact ⟨x, 0, true, rfl, rfl, rfl, Nat.le_trans hgl hal, fun a ha => Nat.le_trans (hgr a ha) hal⟩
  obtain ⟨x, ee, ok, e1, e2, e3, e4, e5⟩ := hfix2
  rw [e1]
  simp only [go_sem, reduceIte, Nat.reduceEqDiff, Nat.reduceAdd, Nat.reduceMul, Nat.reduceSub, Nat.reduceLeDiff, Nat.reduceLT, reduceCtorEq, ars]
  refine aw_sr rfl ?_  -- r8 @low.go:86
  simp only [go_sem, reduceIte, Nat.reduceEqDiff, Nat.reduceAdd, Nat.reduceMul, Nat.reduceSub, Nat.reduceLeDiff, Nat.reduceLT, reduceCtorEq, h4]
  refine goA_q (q_Split args nl .no hal) ?_
  rw [e2]
  simp only [go_sem, reduceIte, Nat.reduceEqDiff, Nat.reduceAdd, Nat.reduceMul, Nat.reduceSub, Nat.reduceLeDiff, Nat.reduceLT, reduceCtorEq, ars]
  refine aw_seq fun K3 hK3 => ?_
  refine aw_sr rfl ?_  -- r9 @low.go:87
  simp only [go_sem, reduceIte, Nat.reduceEqDiff, Nat.reduceAdd, Nat.reduceMul, Nat.reduceSub, Nat.reduceLeDiff, Nat.reduceLT, reduceCtorEq]
  refine goH_q (fun hg => q_sameArms x x _ _ _ _ e4 e5) ?_
  simp only [go_sem, reduceIte, Nat.reduceEqDiff, Nat.reduceAdd, Nat.reduceMul, Nat.reduceSub, Nat.reduceLeDiff, Nat.reduceLT, reduceCtorEq]
  refine aw_if (b := false) ?_ (fun h => by cases h) (fun h => ?_)
  · simp only [go_sem, reduceIte, Nat.reduceEqDiff, Nat.reduceAdd, Nat.reduceMul, Nat.reduceSub, Nat.reduceLeDiff, Nat.reduceLT, reduceCtorEq]
    rw [e3]; simp
  refine aw_skip (hK3 _ _ ?_)
  refine aw_srd [(0,true),(1,true),(2,true),(3,true),(4,true),(5,true),(6,true),(7,true),(8,true),(9,true),(10,true),(11,true),(12,true),(13,true),(14,true),(15,true),(16,true),(17,true),(18,true),(19,true),(20,true),(21,true),(22,true),(23,true),(24,true),(25,true),(26,true),(27,true),(28,true),(29,true),(30,true),(31,true),(32,true),(33,true),(34,true),(35,true)] mixed rfl (by kernel_rfl) ?_
  simp only [go_sem, reduceIte, Nat.reduceEqDiff, Nat.reduceAdd, Nat.reduceMul, Nat.reduceSub, Nat.reduceLeDiff, Nat.reduceLT, reduceCtorEq, h4, h6]
  have hrl : (readsF io a b args).length ≤ 1048578 := by
    unfold readsF
    repeat' split
    all_goals first | (simp; done) | (simp; omega) | omega
  have hnl : (nextF io a b c at_ args).length ≤ 1048578 := by
    have := arms_len io args
    have := first_len io args
    unfold nextF
    repeat' split
    all_goals first | (simp; done) | (simp; omega) | omega
  refine goQ_by (q_cReads io a b c args nl hal) ?_
  simp only [go_sem, reduceIte, Nat.reduceEqDiff, Nat.reduceAdd, Nat.reduceMul, Nat.reduceSub, Nat.reduceLeDiff, Nat.reduceLT, reduceCtorEq, h4, h6, ints]
  refine goQ_by (q_rReads io a b c args nl hal) ?_
  simp only [go_sem, reduceIte, Nat.reduceEqDiff, Nat.reduceAdd, Nat.reduceMul, Nat.reduceSub, Nat.reduceLeDiff, Nat.reduceLT, reduceCtorEq, h4, h6, ints]
  refine goQ_by (q_EqualI _ _ _ _ _ _ (by omega)) ?_
  simp only [go_sem, reduceIte, Nat.reduceEqDiff, Nat.reduceAdd, Nat.reduceMul, Nat.reduceSub, Nat.reduceLeDiff, Nat.reduceLT, reduceCtorEq, h4, h6]
  refine goQg_by (fun hg => q_cWrites io a b c args nl) ?_
  simp only [go_sem, reduceIte, Nat.reduceEqDiff, Nat.reduceAdd, Nat.reduceMul, Nat.reduceSub, Nat.reduceLeDiff, Nat.reduceLT, reduceCtorEq, h4, h6]
  refine goQg_by (fun hg => q_rWrites io a b c args nl) ?_
  simp only [go_sem, reduceIte, Nat.reduceEqDiff, Nat.reduceAdd, Nat.reduceMul, Nat.reduceSub, Nat.reduceLeDiff, Nat.reduceLT, reduceCtorEq, h4, h6]
  refine goQg_by (fun hg => q_cArms io a b c args nl hal) ?_
  simp only [go_sem, reduceIte, Nat.reduceEqDiff, Nat.reduceAdd, Nat.reduceMul, Nat.reduceSub, Nat.reduceLeDiff, Nat.reduceLT, reduceCtorEq, h4, h6, ars]
  refine goQg_by (fun hg => q_rArms io a b c args nl hal) ?_
  simp only [go_sem, reduceIte, Nat.reduceEqDiff, Nat.reduceAdd, Nat.reduceMul, Nat.reduceSub, Nat.reduceLeDiff, Nat.reduceLT, reduceCtorEq, h4, h6, ars]
  refine goQg_by (fun hg => q_sameArms _ _ _ _ _ _ (Nat.le_trans (arms_len io args) hal) fun x hx => Nat.le_trans (arms_regs io args x hx) hal) ?_
  simp only [go_sem, reduceIte, Nat.reduceEqDiff, Nat.reduceAdd, Nat.reduceMul, Nat.reduceSub, Nat.reduceLeDiff, Nat.reduceLT, reduceCtorEq, h4, h6]
  refine goQg_by (fun hg => q_cNext io a b c at_ args nl hal hat.1 hat.2) ?_
  simp only [go_sem, reduceIte, Nat.reduceEqDiff, Nat.reduceAdd, Nat.reduceMul, Nat.reduceSub, Nat.reduceLeDiff, Nat.reduceLT, reduceCtorEq, h4, h6, ints]
  refine goQg_by (fun hg => q_rNext io a b c at_ args nl hal hat.1 hat.2) ?_
  simp only [go_sem, reduceIte, Nat.reduceEqDiff, Nat.reduceAdd, Nat.reduceMul, Nat.reduceSub, Nat.reduceLeDiff, Nat.reduceLT, reduceCtorEq, h4, h6, ints]
  refine goQg_by (fun hg => q_EqualI _ _ _ _ _ _ (by omega)) ?_
  simp only [go_sem, reduceIte, Nat.reduceEqDiff, Nat.reduceAdd, Nat.reduceMul, Nat.reduceSub, Nat.reduceLeDiff, Nat.reduceLT, reduceCtorEq, h4, h6]
  refine goQg_by (fun hg => q_Binds p.sz p (Nat.le_refl _) hpz q2.1) ?_
  simp only [go_sem, reduceIte, Nat.reduceEqDiff, Nat.reduceAdd, Nat.reduceMul, Nat.reduceSub, Nat.reduceLeDiff, Nat.reduceLT, reduceCtorEq, h4, h6]
  refine goQg_by (fun hg => q_rBinds p hpz q2.1) ?_
  simp only [go_sem, reduceIte, Nat.reduceEqDiff, Nat.reduceAdd, Nat.reduceMul, Nat.reduceSub, Nat.reduceLeDiff, Nat.reduceLT, reduceCtorEq]
  refine aw_ret ⟨trivial, _, rfl, ?_, hsB⟩
  exact Vle.refl _
end Go.Proofs.Ytomjghlaoncpbaa.codeTells

/- 'roadlaw1.CodeTells' returns true for every input whose bulk is at most 1048576 values and letters (the statement's own bound): what an instruction reads, writes, its arms, where it goes on, operators and what a pattern binds agree with the reference. No other condition. -/
set_option linter.unusedSimpArgs false
set_option linter.unusedVariables false
set_option maxRecDepth 100000
namespace Go.Proofs.Ytomjghlaoncpbaa.codeTells
open Go.ChangeShapes Go.WideShapes Go.ChangeAt Go.RowKit
open Go.Proofs.YtomjghlaoncpbaaV
theorem own : ownKnob Try.prog.godebug = none := by kernel_rfl
theorem laidOut : laidOutB Try.prog = true := by kernel_rfl
theorem uBool : Try.prog.underlying 4 = some .bool := by kernel_rfl
theorem typed {xs : List V} (h : TyAll Try.prog [132, 3, 135, 9] xs) (hs : vszL xs ≤ 1048576) : Quiet Try.prog 13 xs (.bool true) := by
  obtain ⟨x0, x1, x2, x3, rfl, q0, q1, q2, q3⟩ := args h hs
  exact law x0 x1 x2 x3 q0 q1 q2 q3
theorem contract (H : Type) (enc : TypeId × Value → H) (W : World) (base : Nat) (args : Array Value) (ds gs : List (DataW H)) (before : List MemPlace)
    (hval : ∀ (j : Nat) t v, Try.f13.params[j]? = some t → args[j]? = some v → Value.okWide Try.prog W .any base t v)
    (hW : DataW.Whole enc Try.prog Try.f13.params.toList Rows.codeTellsSpec.vars false W args.toList ds gs before) (hk : Rows.uptoSmall H (ds ++ gs) = true) :
    Calls Try.prog 13 args W fun e W' => ∃ v, e = .returned v ∧ Rows.codeTellsSpec.post enc Try.prog Try.f13 false true false false W args v W' := by
  have hW' := hW
  obtain ⟨p, q, hA0, hV, rfl, hfz, hnd⟩ := hW
  have hA : DataW.TrodAll enc Try.prog W 0 (fun _ => true) true Try.f13.params.toList args.toList ds p := hA0
  obtain ⟨rfl, rfl⟩ := trodVars_none hV
  rw [Try.params13] at hA hval
  obtain ⟨xs, hr, ht, hs⟩ := trod_all (fun j t v hj hv => hval j t v (by simpa using hj) (by simpa using hv)) hA
  have hk' : Rows.uptoBulkAll (ds ++ []) ≤ 1048576 := of_decide_eq_true hk
  rw [List.append_nil] at hk'
  have hq := typed ht (Nat.le_trans hs hk')
  refine (ACall.calls (hq []) Try.func13 rfl rfl hr).mono fun e W' ⟨v, he, bel, M', x, G', hx, hxe, _⟩ => ?_
  subst hxe
  have hv := hx.bool_inv
  subst he hv
  have hst := trod_stays laidOut bel (by kernel_rfl) hA
  obtain ⟨v0, vs0, d0, ds0, p0, q0, hargs, rfl, rfl, h0, r0⟩ := trodAll_cons hA
  obtain ⟨v1, vs1, d1, ds1, p1, q1, rfl, rfl, rfl, h1, r1⟩ := trodAll_cons r0
  obtain ⟨v2, vs2, d2, ds2, p2, q2, rfl, rfl, rfl, h2, r2⟩ := trodAll_cons r1
  obtain ⟨v3, vs3, d3, ds3, p3, q3, rfl, rfl, rfl, h3, r3⟩ := trodAll_cons r2
  obtain ⟨rfl, rfl, rfl⟩ := trodAll_nil r3
  exact ⟨_, rfl, _, _, _, [], _, [], hW', trodAll_mk1 (shut_bool uBool _), hst, rfl, bel.frame _, fun h => by cases h⟩
set_option maxRecDepth 100000 in
theorem lifted (os : Os) (started : os.Started) (H : Type) (enc : TypeId × Value → H) (F : Stop.Interp) :
    ReturnsInHanded {} Try.checked os 13 .any ((Rows.OpenSpec.upto Rows.codeTellsSpec).pre6 enc Try.prog Try.f13 Rows.codeTellsUptoRow.domain false) (((Rows.OpenSpec.upto Rows.codeTellsSpec).at F).post enc Try.prog Try.f13 false true false false) := by
  refine returnsInHanded_of_cond (C := Try.checked) (s := Rows.OpenSpec.upto Rows.codeTellsSpec) (k := Rows.uptoSmall) rfl own started (by kernel_rfl) Try.func13
    (OpenSpec.witness (enc := enc) (C := Try.checked) (s := Rows.OpenSpec.upto Rows.codeTellsSpec) (k := Rows.uptoSmall) rfl false ⟨#[], #[(.agg #[(.int .i64 0), (.int .i64 0), (.int .i64 0), (.int .i64 0), (.slice none 0 0)]), (.int .i64 0), (.agg #[(.int .i64 0), (.int .i64 0), (.string ⟨#[]⟩), (.slice none 0 0)]), (.string ⟨#[]⟩)], []⟩ 8 (by kernel_rfl) (by kernel_rfl) (by kernel_rfl)
      (x := ([(.agg [(.lit (.int .i64 0)), (.lit (.int .i64 0)), (.lit (.int .i64 0)), (.lit (.int .i64 0)), .nil]), (.lit (.int .i64 0)), (.agg [(.lit (.int .i64 0)), (.lit (.int .i64 0)), (.lit (.string [])), .nil]), (.lit (.string []))], [], [])) (by kernel_rfl) rfl (by kernel_rfl)) ?_
  intro W base args ds gs before hval hW _ hk _
  exact contract H enc W base args ds gs before hval hW hk
theorem over : Rows.codeTellsUptoRow.holds Try.pinned (Rows.OpenSpec.upto Rows.codeTellsSpec) :=
  OpenClaim.holds_of_cond 13 Try.f13 rfl rfl rfl rfl rfl rfl rfl ⟨rfl, rfl, rfl, rfl, rfl⟩ rfl rfl rfl rfl rfl (by kernel_rfl) Try.func13 (by kernel_rfl)
    (of_decide_eq_true (by kernel_rfl)) (by unfold Func.isWrapper; first | (rw [if_pos (by decide +kernel)]; kernel_rfl) | (rw [if_neg (by decide +kernel)]; exact ⟨rfl, rfl⟩))
    (fun os started H enc _ F => lifted os started H enc F)
theorem proved : Rows.CodeTellsUptoSaid := over
#print axioms proved
end Go.Proofs.Ytomjghlaoncpbaa.codeTells
