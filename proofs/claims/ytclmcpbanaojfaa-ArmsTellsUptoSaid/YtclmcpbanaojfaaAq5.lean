/- Part 5 of a proof laid in parts; each part's own comment says what it proves and under which conditions. -/
import Derived.Test.YtclmcpbanaojfaaAq4
import Derived.Test.YtclmcpbanaojfaaAq3
import Derived.Test.YtclmcpbanaojfaaRows
import Derived.WalkKit
import Derived.ProofKit
import Derived.OpenShut
import Derived.JoinedCond
/- Questions of a pattern; copies of questions; whether two are one. Conditions: sizes. -/
set_option linter.unusedSimpArgs false
set_option linter.unusedVariables false
namespace Go.Proofs.Ytclmcpbanaojfaa
open Go.Proofs.YtclmcpbanaojfaaV
open ar
set_option maxHeartbeats 4000000
set_option maxRecDepth 100000
namespace ar
abbrev eNi := mk.eN
/-- A call that makes a slice, its room nobody else's. -/
def MadeA (P : Go.Program) (n : Nat) (g : Go.FuncId) (args : List V) (es : List (List V)) (nl : Bool) : Prop := ∀ G, ACall P g args (fun y G' => ∃ t, y = .sl es nl t ∧ Rm G G' n t ∧ Sub G G') G
theorem isE_snoc' {A : Type} (l : List A) (a : A) : (l ++ [a]).isEmpty = false := by cases l <;> rfl
def eTst (t : Tst) : List V := [.sl (t.path.map eNi) t.path.isEmpty .no, .int .i64 t.kind, .int .i64 t.num, .str t.text, .sl [] true .no]
theorem wid_eTst (l : List Tst) : wid 5 (l.map eTst) := wid_map (g := eTst) (fun _ => rfl) _
theorem sca_eTst (l : List Tst) : sca (l.map eTst) := by
  intro e he x hx
  obtain ⟨a, _, rfl⟩ := List.mem_map.1 he
  simp only [eTst, List.mem_cons, List.not_mem_nil, or_false] at hx
  rcases hx with rfl | rfl | rfl | rfl | rfl <;> rfl
theorem tests_eq (p : Pat) (path : List Int) : testsF p path = if p.kind = 3 ∨ p.kind = 4 then [⟨path, p.kind, p.num, []⟩]
    else if p.kind = 5 then [⟨path, p.kind, 0, p.text⟩]
    else if p.kind = 6 then ⟨path, p.kind, p.args.length, p.text⟩ :: testsFs p.args path 0
    else [] := by cases p; rw [testsF]; rfl
theorem testsFs_snoc (q : Pat) (path : List Int) : ∀ (ps : List Pat) (i : Nat), testsFs (ps ++ [q]) path i = testsFs ps path i ++ testsF q (path ++ [((i + ps.length : Nat) : Int)])
  | [], i => by simp [testsFs]
  | p :: ps, i => by
    rw [List.cons_append, testsFs, testsFs, testsFs_snoc q path ps (i + 1), List.append_assoc, List.length_cons, show i + 1 + ps.length = i + (ps.length + 1) by omega]
theorem testsFs_take {ps : List Pat} {path : List Int} {i : Nat} (h : i < ps.length) : testsFs (ps.take (i + 1)) path 0 = testsFs (ps.take i) path 0 ++ testsF ps[i] (path ++ [(i : Int)]) := by
  rw [List.take_succ_eq_append_getElem h, testsFs_snoc]
  congr 3
  simp; omega
end ar
theorem m_CloneN (xs : List Int) (nl : Bool) (t : Tag) (hl : xs.length ≤ 4398046511104) (hnl : nl = true → xs = []) : MadeA Try.prog 1 117 [.sl (xs.map eNi) nl t] (xs.map eNi) nl := by
  intro G
  refine acall_body (rs := [.tmp 2]) Try.func117 rfl rfl Try.ntmps117 (by kernel_rfl) (Nat.le_of_ble_eq_true rfl) ?_
  refine aw_sr rfl ?_  -- r0 @slices.go:355
  simp only [go_sem, reduceIte, Nat.reduceEqDiff, Nat.reduceAdd, Nat.reduceMul, Nat.reduceSub, Nat.reduceLeDiff, Nat.reduceLT, reduceCtorEq]
  refine aw_seq fun K1 hK1 => ?_
  refine aw_sr rfl ?_  -- r1 @slices.go:357
  simp only [go_sem, reduceIte, Nat.reduceEqDiff, Nat.reduceAdd, Nat.reduceMul, Nat.reduceSub, Nat.reduceLeDiff, Nat.reduceLT, reduceCtorEq]
  refine aw_if rfl (fun h => ?_) (fun h => ?_)
  · refine aw_sr rfl ?_  -- r2 @slices.go:358
    simp only [go_sem, reduceIte, Nat.reduceEqDiff, Nat.reduceAdd, Nat.reduceMul, Nat.reduceSub, Nat.reduceLeDiff, Nat.reduceLT, reduceCtorEq]
    refine aw_ret ⟨trivial, _, rfl, ?_⟩
    rw [hnl h, h]; exact ⟨.full, rfl, Rm.start _ _ _, sub_rfl⟩
  refine aw_skip (hK1 _ _ ?_)
  refine aw_sr rfl ?_  -- r3 @slices.go:362
  simp only [go_sem, reduceIte, Nat.reduceEqDiff, Nat.reduceAdd, Nat.reduceMul, Nat.reduceSub, Nat.reduceLeDiff, Nat.reduceLT, reduceCtorEq]
  refine goP_rm (G := G) (Rm.start _ _ _) sub_rfl ?_ fun t1 H1 hr1 hs1 hg1 => ?_
  · exact ⟨rfl, rfl, by decide, by simp [wid], mk.wid_eN _, mk.sca_eN _, by simp; omega, by simp; omega⟩
  simp only [go_sem, reduceIte, Nat.reduceEqDiff, Nat.reduceAdd, Nat.reduceMul, Nat.reduceSub, Nat.reduceLeDiff, Nat.reduceLT, reduceCtorEq]
  refine aw_ret ⟨trivial, _, rfl, ?_⟩
  have h : nl = false := by simpa using h
  rw [h]
  exact ⟨t1, rfl, hr1, hs1⟩
theorem q_CloneN2 (xs : List Int) (nl : Bool) (t : Tag) (hl : xs.length ≤ 4398046511104) (hnl : nl = true → xs = []) : Quiet Try.prog 117 [.sl (xs.map eNi) nl t] (.sl (xs.map eNi) nl .no) := by
  refine Quiet.weak fun G => (m_CloneN xs nl t hl hnl G).mono fun y H hy => ?_
  obtain ⟨t1, rfl, _, h2⟩ := hy
  exact ⟨Vle.untag, h2⟩
theorem q_tests : ∀ (n : Nat) (p : Pat) (path : List Int) (tg : Tag), p.sz ≤ n → OkPat p → p.sz ≤ bulk → path.length + p.sz ≤ 2097152 → Quiet Try.prog 109 [.agg (cPat p), .sl (path.map eNi) path.isEmpty tg] (.sl ((testsF p path).map eTst) (testsF p path).isEmpty .no) := by
  intro n
  induction n with
  | zero => intro p path tg h; have := p.sz_eq; omega
  | succ n ih =>
  intro p path tg hn hp hsz hpa
  have hpl : p.args.length ≤ 1048576 := hp.len
  have hsz' : p.sz ≤ 1048576 := hsz
  have hF := tests_eq p path
  have hC := q_CloneN2 path path.isEmpty tg (by omega) (by simp)
  refine Quiet.weak fun G => ?_
  refine acall_body (rs := [.tmp 4]) Try.func109 rfl rfl Try.ntmps109 (by kernel_rfl) (Nat.le_of_ble_eq_true rfl) ?_
  refine aw_sr rfl ?_  -- r0 @arms.go:31
  simp only [go_sem, reduceIte, Nat.reduceEqDiff, Nat.reduceAdd, Nat.reduceMul, Nat.reduceSub, Nat.reduceLeDiff, Nat.reduceLT, reduceCtorEq]
  intro b2 hb2
  refine aw_box1 hb2 fun B1 hs1 h2 => ?_
  refine aw_seq fun K1 hK1 => ?_
  refine aw_sr rfl ?_  -- r1 @arms.go:32
  simp only [go_sem, reduceIte, Nat.reduceEqDiff, Nat.reduceAdd, Nat.reduceMul, Nat.reduceSub, Nat.reduceLeDiff, Nat.reduceLT, reduceCtorEq, h2]
  refine aw_block ?_  -- 0
  refine aw_chain rfl rfl rfl rfl rfl ?_
  refine aw_if rfl (fun h => ?_) (fun h => ?_)
  · have hk : p.kind = 3 ∨ p.kind = 4 := by simpa using h
    rw [if_pos hk] at hF
    refine aw_srd [(0,true),(1,true),(2,true),(3,true),(4,true),(5,true),(6,true),(7,true),(8,true),(9,true)] mixed rfl (by kernel_rfl) ?_  -- r4
    simp only [go_sem, reduceIte, Nat.reduceEqDiff, Nat.reduceAdd, Nat.reduceMul, Nat.reduceSub, Nat.reduceLeDiff, Nat.reduceLT, reduceCtorEq, h2]
    refine goQ_by hC ?_
    simp only [go_sem, reduceIte, Nat.reduceEqDiff, Nat.reduceAdd, Nat.reduceMul, Nat.reduceSub, Nat.reduceLeDiff, Nat.reduceLT, reduceCtorEq, h2]
    refine aw_ret ⟨trivial, _, rfl, ?_, hs1⟩
    rw [hF]
    exact Vle.slE (.cons (by repeat (first | exact .nil | refine .cons (Vle.refl _) ?_ | refine .cons Vle.untag ?_ | refine .cons (Vle.aggL ?_) ?_ | refine .cons (Vle.slE ?_) ?_)) .nil)
  have k34 : ¬ (p.kind = 3 ∨ p.kind = 4) := by simpa using h
  rw [if_neg k34] at hF
  refine aw_chain rfl rfl rfl rfl rfl ?_
  refine aw_if rfl (fun h => ?_) (fun h => ?_)
  · have hk : p.kind = 5 := by simpa using h
    rw [if_pos hk] at hF
    refine aw_srd [(0,true),(1,true),(2,true),(3,true),(4,true),(5,true),(6,true),(7,true),(8,true),(9,true)] mixed rfl (by kernel_rfl) ?_  -- r6
    simp only [go_sem, reduceIte, Nat.reduceEqDiff, Nat.reduceAdd, Nat.reduceMul, Nat.reduceSub, Nat.reduceLeDiff, Nat.reduceLT, reduceCtorEq, h2]
    refine goQ_by hC ?_
    simp only [go_sem, reduceIte, Nat.reduceEqDiff, Nat.reduceAdd, Nat.reduceMul, Nat.reduceSub, Nat.reduceLeDiff, Nat.reduceLT, reduceCtorEq, h2]
    refine aw_ret ⟨trivial, _, rfl, ?_, hs1⟩
    rw [hF]
    exact Vle.slE (.cons (by repeat (first | exact .nil | refine .cons (Vle.refl _) ?_ | refine .cons Vle.untag ?_ | refine .cons (Vle.aggL ?_) ?_ | refine .cons (Vle.slE ?_) ?_)) .nil)
  have k5 : ¬ p.kind = 5 := by simpa using h
  rw [if_neg k5] at hF
  refine aw_chain rfl rfl rfl rfl rfl ?_
  refine aw_if rfl (fun h => ?_) (fun h => ?_)
  · have hk : p.kind = 6 := by simpa using h
    rw [if_pos hk] at hF
    refine aw_srd [(0,true),(1,true),(2,true),(3,true),(4,true),(5,true),(6,true),(7,true),(8,true),(9,true),(10,true),(11,true),(12,true)] mixed rfl (by kernel_rfl) ?_  -- r8
    simp only [go_sem, reduceIte, Nat.reduceEqDiff, Nat.reduceAdd, Nat.reduceMul, Nat.reduceSub, Nat.reduceLeDiff, Nat.reduceLT, reduceCtorEq, h2, List.length_map]
    refine goQ_by hC ?_
    simp only [go_sem, reduceIte, Nat.reduceEqDiff, Nat.reduceAdd, Nat.reduceMul, Nat.reduceSub, Nat.reduceLeDiff, Nat.reduceLT, reduceCtorEq, h2]
    refine AW.of_fle (g := [(5, .sl ([(⟨path, p.kind, p.args.length, p.text⟩ : Tst)].map eTst) false .full), (2, .ptr b2 0), (1, .sl (path.map eNi) path.isEmpty tg)]) ⟨⟨_, rfl, Vle.slT (.cons (by repeat (first | exact .nil | refine .cons (Vle.refl _) ?_ | refine .cons Vle.untag ?_ | refine .cons (Vle.aggL ?_) ?_ | refine .cons (Vle.slE ?_) ?_)) .nil)⟩, fle_same rfl, fle_same rfl, trivial⟩ ?_
    refine aw_seq fun K2 hK2 => ?_
    refine aw_sr rfl ?_  -- r9 @arms.go:39
    simp only [go_sem, reduceIte, Nat.reduceEqDiff, Nat.reduceAdd, Nat.reduceMul, Nat.reduceSub, Nat.reduceLeDiff, Nat.reduceLT, reduceCtorEq, h2]
    refine aw_range p.args.length (S := Tag × Heap) (fun i s => [(1, .sl (path.map eNi) path.isEmpty tg), (5, .sl ((⟨path, p.kind, p.args.length, p.text⟩ :: testsFs (p.args.take i) path 0).map eTst) false s.1), (48, .sl (p.args.map ePat) p.nl .no)]) (fun _ s => s.2) (fun i s => Rm G s.2 5 s.1 ∧ Sub G s.2) (.full, B1) (by omega) ?_ (fun _ _ h => h) ⟨Rm.start _ _ _, hs1⟩ rfl (fun _ _ => rfl) ?_ ?_ (by decide)
    · simp only [go_sem, reduceIte, Nat.reduceEqDiff, Nat.reduceAdd, Nat.reduceMul, Nat.reduceSub, Nat.reduceLeDiff, Nat.reduceLT, reduceCtorEq, Int.natCast_zero, List.take_zero, testsFs]
    · intro i ⟨t, H⟩ hi ⟨hr, hs⟩
      simp only at hr hs ⊢
      have hmem : p.args[i] ∈ p.args := List.getElem_mem hi
      have hasz := Pat.sz_args hmem
      have hq := fun t6 => ih p.args[i] (path ++ [(i : Int)]) t6 (by omega) (hp.arg hmem) (Nat.le_trans (Nat.le_of_lt hasz) hsz) (by rw [List.length_append, List.length_singleton]; omega)
      simp only [List.map_append, List.map_cons, List.map_nil, isE_snoc', mk.eN] at hq
      have hnx := testsFs_take (path := path) hi
      have hl1 := testss_len (p.args.take i) path 0
      have hl2 := tests_len p.args[i] (path ++ [(i : Int)])
      have hq1 := quests_le (p.args.take i)
      have hq2 := quest_le p.args[i]
      have hq3 := pszs_take_le p.args i
      have hp1 := p.sz_eq
      refine aw_sr rfl ?_  -- r11 @arms.go:39
      simp only [go_sem, reduceIte, Nat.reduceEqDiff, Nat.reduceAdd, Nat.reduceMul, Nat.reduceSub, Nat.reduceLeDiff, Nat.reduceLT, reduceCtorEq, getD_map hi, ePat_eq]
      refine ⟨⟨by omega, by omega, wid_ePat _⟩, ?_⟩
      generalize p.args[i] = a at hq hnx hl2 hq2 hasz
      intro b7 hb7
      refine aw_box1 hb7 fun B2 hs2 h7 => ?_
      replace hr := hr.sub hs2
      replace hs := sub_trans hs hs2
      refine aw_rgt [(0,true),(1,false),(2,true),(3,false),(4,true),(5,true),(6,false),(7,true),(8,false),(9,true)]
        (.fork2 [(0,true),(2,true),(4,true),(5,true)] 1 3 (.leaf [(3,false),(6,false),(7,true),(8,false),(9,true)]) (.fork2 [] 1 6 (.leaf [(6,false),(7,true),(8,false),(9,true)]) (.leaf [(1,false),(7,true),(8,false),(9,true)]))) mixed rfl (by kernel_rfl) ?_  -- r12 @arms.go:40
      simp only [go_sem, reduceIte, Nat.reduceEqDiff, Nat.reduceAdd, Nat.reduceMul, Nat.reduceSub, Nat.reduceLeDiff, Nat.reduceLT, reduceCtorEq, goTr, h7]
      repeat' first
        | (refine goA_by (m_CloneN path _ _ (by omega) (by simp) B2) fun y G3 hy => ?_
           obtain ⟨t5, rfl, hr5, hs5⟩ := hy
           have k7 := hs5 _ _ h7
           simp only [go_sem, reduceIte, Nat.reduceEqDiff, Nat.reduceAdd, Nat.reduceMul, Nat.reduceSub, Nat.reduceLeDiff, Nat.reduceLT, reduceCtorEq, goTr, k7])
        | (refine goP_rm hr5 hs5 ⟨rfl, rfl, by decide, mk.wid_eN _, wid_one rfl, by simp [sca, scalarV], by simp only [List.length_map, List.length_cons, List.length_nil]; omega, by simp only [List.length_map, List.length_cons, List.length_nil]; omega⟩ fun t6 H6 hr6 hs6 hg6 => ?_
           have m7 := hs6 _ _ h7
           simp only [go_sem, reduceIte, Nat.reduceEqDiff, Nat.reduceAdd, Nat.reduceMul, Nat.reduceSub, Nat.reduceLeDiff, Nat.reduceLT, reduceCtorEq, goTr, m7]
           try simp only [List.isEmpty_cons, Bool.and_false])
        | (refine goQ_by (hq t6) ?_
           simp only [go_sem, reduceIte, Nat.reduceEqDiff, Nat.reduceAdd, Nat.reduceMul, Nat.reduceSub, Nat.reduceLeDiff, Nat.reduceLT, reduceCtorEq, goTr, m7]
           try simp only [List.isEmpty_cons, Bool.and_false])
        | (refine goP_rm (hr.sub hs6) (sub_trans hs hs6) ⟨rfl, rfl, by decide, wid_eTst (_ :: _), wid_eTst _, sca_eTst _, by simp only [List.length_map, List.length_cons]; omega, by simp only [List.length_map, List.length_cons]; omega⟩ fun t9 H9 hr9 hs9 hg9 => ?_
           simp only [go_sem, reduceIte, Nat.reduceEqDiff, Nat.reduceAdd, Nat.reduceMul, Nat.reduceSub, Nat.reduceLeDiff, Nat.reduceLT, reduceCtorEq]
           refine ⟨(t9, H9), ⟨hr9, hs9⟩, ?_, sub_rfl⟩
           rw [hnx]
           simp only [List.map_cons, List.map_append, List.cons_append, Bool.false_and]
           exact (by repeat' first | exact rfl | exact trivial | refine And.intro ?_ ?_))
        | refine And.intro ?_ ?_
    intro ⟨t, H⟩ ⟨hr, hs⟩
    simp only at hr hs ⊢
    rw [List.take_length]
    refine hK2 _ _ ?_
    refine aw_sr rfl ?_  -- r14 @arms.go:42
    simp only [go_sem, reduceIte, Nat.reduceEqDiff, Nat.reduceAdd, Nat.reduceMul, Nat.reduceSub, Nat.reduceLeDiff, Nat.reduceLT, reduceCtorEq]
    refine aw_ret ⟨trivial, _, rfl, ?_, hs⟩
    rw [hF]
    exact Vle.untag
  have k6 : ¬ p.kind = 6 := by simpa using h
  rw [if_neg k6] at hF
  refine aw_skip (hK1 _ _ ?_)
  refine aw_sr rfl ?_  -- r15 @arms.go:44
  simp only [go_sem, reduceIte, Nat.reduceEqDiff, Nat.reduceAdd, Nat.reduceMul, Nat.reduceSub, Nat.reduceLeDiff, Nat.reduceLT, reduceCtorEq]
  refine aw_ret ⟨trivial, _, rfl, ?_, hs1⟩
  rw [hF]
  exact Vle.untag
end Go.Proofs.Ytclmcpbanaojfaa

/- Questions taken out of a list; whether two are one; found in a list. Conditions: sizes. -/
set_option linter.unusedSimpArgs false
set_option linter.unusedVariables false
namespace Go.Proofs.Ytclmcpbanaojfaa
open Go.Proofs.YtclmcpbanaojfaaV
open ar
open mk (idxF idxF_at idxF_none idxF_any)
set_option maxHeartbeats 4000000
set_option maxRecDepth 100000
namespace ar
def aTs (t : Tst) : V := .agg (eTst t)
/-- One element behind another is put over it; the last is cleared. -/
theorem set_cut {k : Nat} {A B : List (List V)} {e z : List V} {rest : List V} {m : Nat} (hA : wid k A) (hB : wid k B) (he : e.length = k) (hz : z.length = k) (hm : m = A.length) :
    ∃ r2, setMany (setMany ((A ++ e :: B).flatten ++ rest) (m * k) (B.flatten ++ [])) ((m + B.length) * k) z = (A ++ B).flatten ++ (z ++ r2) ∧ r2 = rest := by
  subst hm
  have lA := wid_flat hA
  have lB := wid_flat hB
  obtain ⟨c, d, hcd, hc⟩ : ∃ c d, e ++ B.flatten = c ++ d ∧ c.length = B.flatten.length := ⟨(e ++ B.flatten).take B.flatten.length, (e ++ B.flatten).drop B.flatten.length, (List.take_append_drop _ _).symm, by rw [List.length_take, List.length_append]; omega⟩
  have hd : d.length = k := by have := congrArg List.length hcd; simp only [List.length_append] at this; omega
  have h1 : (A ++ e :: B).flatten ++ rest = A.flatten ++ (c ++ (d ++ rest)) := by
    rw [List.flatten_append, List.flatten_cons, hcd]; simp only [List.append_assoc]
  refine ⟨rest, ?_, rfl⟩
  rw [h1, List.append_nil, ← lA, setMany_append _ _ _ _ hc, show (A.length + B.length) * k = (A.flatten ++ B.flatten).length by rw [List.length_append, lA, lB, Nat.add_mul], ← List.append_assoc, setMany_append _ _ _ _ (by rw [hd, hz]), List.flatten_append]
theorem cut_tail {A : List (List V)} {e : List V} {B : List (List V)} {rest : List V} {k o : Nat} (hA : wid k A) (hB : wid k B) (he : e.length = k) (ho : B ≠ [] → o = (A.length + 1) * k) : (((A ++ e :: B).flatten ++ rest).drop o).take (B.length * k) = B.flatten := by
  by_cases hn : B = []
  · subst hn; simp
  have lA := wid_flat hA
  have lB := wid_flat hB
  rw [ho hn, List.flatten_append, List.flatten_cons, show (A.length + 1) * k = (A.flatten ++ e).length by rw [List.length_append, lA, he, Nat.add_mul, Nat.one_mul], show A.flatten ++ (e ++ B.flatten) ++ rest = (A.flatten ++ e) ++ (B.flatten ++ rest) by simp only [List.append_assoc], List.drop_left, ← lB, List.take_left]
theorem sca_all {es : List (List V)} (h : sca es) : es.flatten.all scalarV = true := by
  rw [List.all_eq_true]
  intro x hx
  obtain ⟨e, he, hx⟩ := List.mem_flatten.1 hx
  exact h e he x hx
theorem erase_split {A : Type} {l : List A} {i : Nat} (h : i < l.length) : l = l.take i ++ l[i] :: l.drop (i + 1) := by
  rw [← List.drop_eq_getElem_cons h, List.take_append_drop]
end ar
theorem a_CloneT (l : List Tst) (t : Tag) (hl : l.length ≤ 1048576) (hne : l ≠ []) (G : Heap) : ACall Try.prog 196 [.sl (l.map eTst) false t]
    (fun y H => ∃ b c, y = .ms b 0 l.length c ∧ l.length ≤ c ∧ hget G b = none ∧ hget H b = some (.vars ((l.map eTst).flatten ++ pad (c - l.length) 5)) ∧ Sub G H) G := by
  refine acall_body (rs := [.tmp 2]) Try.func196 rfl rfl Try.ntmps196 (by kernel_rfl) (Nat.le_of_ble_eq_true rfl) ?_
  refine aw_sr rfl ?_  -- r0
  simp only [go_sem, reduceIte, Nat.reduceEqDiff, Nat.reduceAdd, Nat.reduceMul, Nat.reduceSub, Nat.reduceLeDiff, Nat.reduceLT, reduceCtorEq]
  refine aw_seq fun K1 hK1 => ?_
  refine aw_sr rfl ?_  -- r1
  simp only [go_sem, reduceIte, Nat.reduceEqDiff, Nat.reduceAdd, Nat.reduceMul, Nat.reduceSub, Nat.reduceLeDiff, Nat.reduceLT, reduceCtorEq]
  refine aw_if rfl (fun h => by simp at h) (fun h => ?_)
  refine aw_skip (hK1 _ _ ?_)
  refine aw_sr rfl ?_  -- r3
  simp only [go_sem, reduceIte, Nat.reduceEqDiff, Nat.reduceAdd, Nat.reduceMul, Nat.reduceSub, Nat.reduceLeDiff, Nat.reduceLT, reduceCtorEq]
  refine ⟨⟨rfl, rfl, by decide, by simp [wid], wid_eTst _, sca_eTst _, by simp; omega, by simp; omega⟩, .inr ⟨rfl, rfl, by simpa using hne, fun b c hb hc => ?_⟩⟩
  simp only [go_sem, reduceIte, Nat.reduceEqDiff, Nat.reduceAdd, Nat.reduceMul, Nat.reduceSub, Nat.reduceLeDiff, Nat.reduceLT, reduceCtorEq]
  refine aw_ret ⟨trivial, _, rfl, b, c, rfl, by simpa using hc, hb, ?_, sub_tail hb⟩
  rw [hget_self]
  simp [pad]
theorem a_DeleteT (l : List Tst) (b c i : Nat) (G : Heap) (hb : hget G b = some (.vars ((l.map eTst).flatten ++ pad (c - l.length) 5))) (hl : l.length ≤ 1048576) (hc : l.length ≤ c) (hi : i < l.length) :
    ACall Try.prog 195 [.ms b 0 l.length c, .int .i64 i, .int .i64 ((i : Int) + 1)]
    (fun y H => y = .sl ((l.eraseIdx i).map eTst) false .no ∧ ∀ b' o, hget G b' = some o → ¬ b' = b → hget H b' = some o) G := by
  refine ACall.turn ?_
  refine acall_body (rs := [.tmp 6]) Try.func195 rfl rfl Try.ntmps195 (by kernel_rfl) (Nat.le_of_ble_eq_true rfl) ?_
  refine aw_sr rfl ?_  -- r0 @slices.go:224
  simp only [go_sem, reduceIte, Nat.reduceEqDiff, Nat.reduceAdd, Nat.reduceMul, Nat.reduceSub, Nat.reduceLeDiff, Nat.reduceLT, reduceCtorEq]
  refine aw_sr rfl ?_  -- r1 @slices.go:225
  simp only [go_sem, reduceIte, Nat.reduceEqDiff, Nat.reduceAdd, Nat.reduceMul, Nat.reduceSub, Nat.reduceLeDiff, Nat.reduceLT, reduceCtorEq]
  refine ⟨⟨by omega, by omega, by omega, by omega⟩, ?_⟩
  refine aw_seq fun K1 hK1 => ?_
  refine aw_sr rfl ?_  -- r2 @slices.go:227
  simp only [go_sem, reduceIte, Nat.reduceEqDiff, Nat.reduceAdd, Nat.reduceMul, Nat.reduceSub, Nat.reduceLeDiff, Nat.reduceLT, reduceCtorEq]
  refine aw_if rfl (fun h => ?_) (fun h => ?_)
  · exfalso
    have : (i : Int) = (i : Int) + 1 := by simpa using h
    omega
  refine aw_skip (hK1 _ _ ?_)
  refine aw_sr rfl ?_  -- r4 @slices.go:231
  simp only [go_sem, reduceIte, Nat.reduceEqDiff, Nat.reduceAdd, Nat.reduceMul, Nat.reduceSub, Nat.reduceLeDiff, Nat.reduceLT, reduceCtorEq]
  refine aw_srw [(0,true),(1,true),(2,true),(3,true),(4,true),(5,true)] 6 [(7,true)] mixed rfl rfl rfl (by kernel_rfl) ?_  -- r5 @slices.go:232
  simp only [go_sem, reduceIte, Nat.reduceEqDiff, Nat.reduceAdd, Nat.reduceMul, Nat.reduceSub, Nat.reduceLeDiff, Nat.reduceLT, reduceCtorEq]
  refine ⟨⟨by omega, by omega⟩, ⟨by omega, by omega, by omega, by omega⟩, ?_⟩
  have hsp : l.map eTst = (l.take i).map eTst ++ eTst l[i] :: (l.drop (i + 1)).map eTst := by
    conv => lhs; rw [erase_split hi]
    rw [List.map_append, List.map_cons]
  have hA := wid_eTst (l.take i)
  have hB := wid_eTst (l.drop (i + 1))
  have hlA : ((l.take i).map eTst).length = i := by rw [List.length_map, List.length_take]; omega
  have hlB : ((l.drop (i + 1)).map eTst).length = l.length - (i + 1) := by rw [List.length_map, List.length_drop]
  have hln : ((l.map eTst).flatten ++ pad (c - l.length) 5).length = c * 5 := by
    rw [List.length_append, wid_flat (wid_eTst l), List.length_map, pad_length]; omega
  have hcut : ∀ o, (¬ (c : Int) = (i : Int) + 1 → o = (i + 1) * 5) → ((((l.map eTst).flatten ++ pad (c - l.length) 5).drop o).take (((l.length : Int) - ((i : Int) + 1)).toNat * 5)) = ((l.drop (i + 1)).map eTst).flatten := by
    intro o ho
    rw [show ((l.length : Int) - ((i : Int) + 1)).toNat = ((l.drop (i + 1)).map eTst).length by rw [hlB]; omega, hsp]
    refine cut_tail hA hB rfl fun hne => ?_
    have : 0 < l.length - (i + 1) := by rw [← hlB]; exact List.length_pos_iff.2 hne
    rw [hlA]; exact ho (by omega)
  have ho2 : ∀ o, o = (if (c : Int) = (i : Int) + 1 then 0 else ((i : Int) + 1).toNat * 5) → (¬ (c : Int) = (i : Int) + 1 → o = (i + 1) * 5) ∧ o + ((l.length : Int) - ((i : Int) + 1)).toNat * 5 ≤ c * 5 := by
    intro o ho
    split at ho
    · rename_i hh
      exact ⟨fun h => absurd hh h, by omega⟩
    · exact ⟨fun _ => by rw [ho, show ((i : Int) + 1).toNat = i + 1 by omega], by omega⟩
  generalize hoo : (if (c : Int) = (i : Int) + 1 then 0 else ((i : Int) + 1).toNat * 5) = oo
  obtain ⟨ho3, ho4⟩ := ho2 oo hoo.symm
  have hcu := hcut oo ho3
  refine wild.mk (stepF_appendRow (P := Try.prog) (cs := (l.map eTst).flatten ++ pad (c - l.length) 5) (cs2 := (l.map eTst).flatten ++ pad (c - l.length) 5) rfl rfl ty_sl235 (by kernel_rfl) (by decide) hb (by omega) hb (by omega) (by rw [hcu]; exact sca_all (sca_eTst _)) (by omega)) fun X H hXH => ?_
  rw [hcu] at hXH
  obtain ⟨rfl, hH⟩ := hXH
  obtain ⟨hb1, hk1, -, -⟩ := hset_facts hH.symm hb
  clear hH
  obtain ⟨m, hm⟩ : ∃ m, i + ((l.length : Int) - ((i : Int) + 1)).toNat = m := ⟨_, rfl⟩
  have hm1 : m + 1 = l.length := by omega
  rw [hm]
  refine aw_srk 5 rfl rfl rfl ?_  -- r6 @slices.go:233
  simp only [go_sem, reduceIte, Nat.reduceEqDiff, Nat.reduceAdd, Nat.reduceMul, Nat.reduceSub, Nat.reduceLeDiff, Nat.reduceLT, reduceCtorEq]
  refine ⟨⟨by omega, by omega, by omega, by omega⟩, ?_⟩
  rw [if_neg (show ¬ (c : Int) = (m : Int) by omega), show ((l.length : Int) - (m : Int)).toNat = 1 by omega]
  refine ⟨_, StepF.step (stepF_clearRow hb1 rfl ty_sl235 ty_ze126 (by rfl) rfl (by rfl) (by rw [setMany_length, hln]; omega)), fun x G' hG => ?_⟩
  obtain ⟨hb2, hk2, -, -⟩ := hset_facts hG.symm hb1
  clear hG
  obtain ⟨r2, hr2, -⟩ := set_cut (k := 5) (e := eTst l[i]) (z := (List.replicate 1 (cellsV (.agg [(.sl [] true .full), (.int .i64 0), (.int .i64 0), (.str []), (.sl [] true .full)]))).flatten) (rest := pad (c - l.length) 5) (m := i) hA hB rfl rfl hlA.symm
  rw [← hsp, List.append_nil, hlB, show i + (l.length - (i + 1)) = m by omega, ← List.map_append, ← List.eraseIdx_eq_take_drop_succ] at hr2
  rw [Nat.zero_add, hr2] at hb2
  have hel : (l.eraseIdx i).length = m := by rw [List.length_eraseIdx_of_lt hi]; omega
  refine aw_sr rfl ?_  -- r7 @slices.go:234
  simp only [go_sem, reduceIte, Nat.reduceEqDiff, Nat.reduceAdd, Nat.reduceMul, Nat.reduceSub, Nat.reduceLeDiff, Nat.reduceLT, reduceCtorEq]
  exact aw_ret ⟨trivial, _, rfl, _, _, turn_buf (sz := 5) (c := c) hb2 (by rw [List.length_map, hel]) (wid_eTst _) (.ms _ rfl), rfl, fun b' o hk hne => by rw [hget_hdel_ne hne]; exact hk2 _ _ (hk1 _ _ hk hne) hne⟩

theorem q_IndexTst (H0 : Heap) (F : FuncId) (us ws : List V) (f : Tst → Bool) (xs : List Tst) (nl : Bool) (t : Tag) (hx : (xs.length : Int) ≤ 9223372036854775807)
    (hF : ∀ a ∈ xs, QuietOn Try.prog H0 F (us ++ [aTs a] ++ ws) (.bool (f a))) :
    QuietOn Try.prog H0 191 [.sl (xs.map eTst) nl t, .func (.func F) us ws] (.int .i64 (idxF f xs)) := by
  intro G hG
  refine acall_body (rs := [.tmp 4]) Try.func191 rfl rfl Try.ntmps191 (by kernel_rfl) (Nat.le_of_ble_eq_true rfl) ?_
  refine aw_sr rfl ?_
  simp only [go_sem, reduceIte, Nat.reduceEqDiff, Nat.reduceAdd, Nat.reduceMul, Nat.reduceSub, Nat.reduceLeDiff, Nat.reduceLT, reduceCtorEq]
  refine aw_seq fun K1 hK1 => ?_
  refine aw_sr rfl ?_
  simp only [go_sem, reduceIte, Nat.reduceEqDiff, Nat.reduceAdd, Nat.reduceMul, Nat.reduceSub, Nat.reduceLeDiff, Nat.reduceLT, reduceCtorEq]
  refine aw_range xs.length (S := {H : Heap // H = G}) (fun _ _ => [(0, .sl (xs.map eTst) nl t), (1, .func (.func F) us ws)]) (fun _ s => s.1) (fun i _ => ∀ j (h : j < xs.length), j < i → f xs[j] = false) ⟨G, rfl⟩ hx ?_ (fun _ _ h => h) (fun j _ h => absurd h (by omega)) rfl (fun _ _ => rfl) ?_ ?_ (by decide)
  · simp only [go_sem, reduceIte, Nat.reduceEqDiff, Nat.reduceAdd, Nat.reduceMul, Nat.reduceSub, Nat.reduceLeDiff, Nat.reduceLT, reduceCtorEq, Int.natCast_zero]
  · intro i ⟨H, hH⟩ hi he
    subst hH
    refine aw_sr rfl ?_
    simp only [go_sem, reduceIte, Nat.reduceEqDiff, Nat.reduceAdd, Nat.reduceMul, Nat.reduceSub, Nat.reduceLeDiff, Nat.reduceLT, reduceCtorEq]
    refine aw_sr rfl ?_
    simp only [go_sem, reduceIte, Nat.reduceEqDiff, Nat.reduceAdd, Nat.reduceMul, Nat.reduceSub, Nat.reduceLeDiff, Nat.reduceLT, reduceCtorEq, getD_map hi, eTst]
    refine ⟨⟨by omega, by omega, wid_map (g := eTst) (fun _ => by simp [eTst]) _⟩, ?_⟩
    have hq := hF _ (List.getElem_mem hi)
    refine goA_on hq hG ?_
    simp only [go_sem, reduceIte, Nat.reduceEqDiff, Nat.reduceAdd, Nat.reduceMul, Nat.reduceSub, Nat.reduceLeDiff, Nat.reduceLT, reduceCtorEq]
    refine aw_if rfl (fun h => ?_) (fun h => ?_)
    · refine aw_sr rfl ?_
      simp only [go_sem, reduceIte, Nat.reduceEqDiff, Nat.reduceAdd, Nat.reduceMul, Nat.reduceSub, Nat.reduceLeDiff, Nat.reduceLT, reduceCtorEq]
      refine aw_ret ⟨trivial, _, rfl, ?_, rfl⟩
      rw [idxF_at hi h (fun j hj => he j (by omega) hj)]
      rfl
    · refine aw_skip ⟨⟨H, rfl⟩, fun j hj hlt => ?_, ?_, fun _ _ h => h⟩
      · by_cases e : j = i
        · subst e; exact h
        · exact he j hj (by omega)
      simp only [go_sem, reduceIte, Nat.reduceEqDiff, Nat.reduceAdd, Nat.reduceMul, Nat.reduceSub, Nat.reduceLeDiff, Nat.reduceLT, reduceCtorEq]
  · intro ⟨H, hH⟩ he
    subst hH
    refine hK1 _ _ ?_
    refine aw_sr rfl ?_
    simp only [go_sem, reduceIte, Nat.reduceEqDiff, Nat.reduceAdd, Nat.reduceMul, Nat.reduceSub, Nat.reduceLeDiff, Nat.reduceLT, reduceCtorEq]
    refine aw_ret ⟨trivial, _, rfl, ?_, rfl⟩
    rw [idxF_none (fun j hj => he j hj hj)]
    rfl
theorem q_sameT (a b : Tst) (ha : a.path.length ≤ 4294967296) : Quiet Try.prog 193 [aTs a, aTs b] (.bool (sameT a b)) := by
  have hq := q_EqN a.path b.path a.path.isEmpty b.path.isEmpty .no .no (by omega)
  refine Quiet.weak fun G => ?_
  refine acall_body (rs := [.tmp 4]) Try.func193 rfl rfl Try.ntmps193 (by kernel_rfl) (Nat.le_of_ble_eq_true rfl) ?_
  refine aw_sr rfl ?_  -- r0 @arms.go:48
  simp only [go_sem, reduceIte, Nat.reduceEqDiff, Nat.reduceAdd, Nat.reduceMul, Nat.reduceSub, Nat.reduceLeDiff, Nat.reduceLT, reduceCtorEq, aTs, eTst]
  intro b2 hb2
  intro b3 hb3
  refine aw_box2 hb2 hb3 fun B1 hs1 h2 h3 _ _ => ?_
  have hsB := hs1
  refine aw_sr rfl ?_  -- r1 @arms.go:49
  simp only [go_sem, reduceIte, Nat.reduceEqDiff, Nat.reduceAdd, Nat.reduceMul, Nat.reduceSub, Nat.reduceLeDiff, Nat.reduceLT, reduceCtorEq, h2, h3]
  refine goA_q hq ?_
  simp only [go_sem, reduceIte, Nat.reduceEqDiff, Nat.reduceAdd, Nat.reduceMul, Nat.reduceSub, Nat.reduceLeDiff, Nat.reduceLT, reduceCtorEq, h2, h3]
  refine aw_ret ⟨trivial, _, rfl, ?_, hsB⟩
  unfold sameT
  cases decide (a.path = b.path) <;> cases decide (a.kind = b.kind) <;> cases decide (a.num = b.num) <;> cases decide (a.text = b.text) <;> exact Vle.refl _
theorem q_build1 (x : Tst) (b : Nat) (t : Tst) (hx : x.path.length ≤ 4294967296) : QuietOn Try.prog [(b, .vars (eTst t))] 192 ([] ++ [aTs x] ++ [.ptr b 0]) (.bool (sameT x t)) := by
  refine QuietOn.weak fun G hG => ?_
  have hg : hget G b = some (.vars (eTst t)) := hG _ _ (hget_self _ _ _)
  simp only [eTst] at hg
  have hq := q_sameT x t hx
  simp only [aTs, eTst] at hq
  refine acall_body (rs := [.tmp 3]) Try.func192 rfl rfl Try.ntmps192 (by kernel_rfl) (Nat.le_of_ble_eq_true rfl) ?_
  refine aw_sr rfl ?_  -- r0 @arms.go:71
  simp only [go_sem, reduceIte, Nat.reduceEqDiff, Nat.reduceAdd, Nat.reduceMul, Nat.reduceSub, Nat.reduceLeDiff, Nat.reduceLT, reduceCtorEq, aTs, eTst]
  intro b2 hb
  have hne : ¬ b2 = b := by intro e; subst e; rw [hg] at hb; cases hb
  refine aw_sr rfl ?_  -- r1 @arms.go:71
  simp only [go_sem, reduceIte, Nat.reduceEqDiff, Nat.reduceAdd, Nat.reduceMul, Nat.reduceSub, Nat.reduceLeDiff, Nat.reduceLT, reduceCtorEq, hne, hg]
  refine goA_q hq ?_
  simp only [go_sem, reduceIte, Nat.reduceEqDiff, Nat.reduceAdd, Nat.reduceMul, Nat.reduceSub, Nat.reduceLeDiff, Nat.reduceLT, reduceCtorEq, hne, hg]
  exact aw_ret ⟨trivial, _, rfl, Vle.refl _, hsub_cons hb⟩
theorem q_build2 (x : Tst) (b : Nat) (t : Tst) (hx : x.path.length ≤ 4294967296) : QuietOn Try.prog [(b, .vars (eTst t))] 194 ([] ++ [aTs x] ++ [.ptr b 0]) (.bool (decide (x.path = t.path))) := by
  refine QuietOn.weak fun G hG => ?_
  have hg : hget G b = some (.vars (eTst t)) := hG _ _ (hget_self _ _ _)
  simp only [eTst] at hg
  have hq := q_EqN x.path t.path x.path.isEmpty t.path.isEmpty .no .no (by omega)
  refine acall_body (rs := [.tmp 3]) Try.func194 rfl rfl Try.ntmps194 (by kernel_rfl) (Nat.le_of_ble_eq_true rfl) ?_
  refine aw_sr rfl ?_  -- r0 @arms.go:72
  simp only [go_sem, reduceIte, Nat.reduceEqDiff, Nat.reduceAdd, Nat.reduceMul, Nat.reduceSub, Nat.reduceLeDiff, Nat.reduceLT, reduceCtorEq, aTs, eTst]
  intro b2 hb
  have hne : ¬ b2 = b := by intro e; subst e; rw [hg] at hb; cases hb
  refine aw_sr rfl ?_  -- r1 @arms.go:72
  simp only [go_sem, reduceIte, Nat.reduceEqDiff, Nat.reduceAdd, Nat.reduceMul, Nat.reduceSub, Nat.reduceLeDiff, Nat.reduceLT, reduceCtorEq, hne, hg]
  refine goA_q hq ?_
  simp only [go_sem, reduceIte, Nat.reduceEqDiff, Nat.reduceAdd, Nat.reduceMul, Nat.reduceSub, Nat.reduceLeDiff, Nat.reduceLT, reduceCtorEq, hne, hg]
  exact aw_ret ⟨trivial, _, rfl, Vle.refl _, hsub_cons hb⟩
end Go.Proofs.Ytclmcpbanaojfaa

/- The tree of patterns' questions. Conditions: sizes. -/
set_option linter.unusedSimpArgs false
set_option linter.unusedVariables false
namespace Go.Proofs.Ytclmcpbanaojfaa
open Go.Proofs.YtclmcpbanaojfaaV
open ar
open mk (idxF idxF_at idxF_none idxF_any)
set_option maxHeartbeats 4000000
set_option maxRecDepth 100000
namespace ar
def eRow (r : Row) : List V := [.int .i64 r.1, .sl (r.2.1.map eTst) r.2.2 .no]
theorem wid_eRow (l : List Row) : wid 2 (l.map eRow) := wid_map (g := eRow) (fun _ => rfl) _
theorem sca_eRow (l : List Row) : sca (l.map eRow) := by
  intro e he x hx
  obtain ⟨a, _, rfl⟩ := List.mem_map.1 he
  simp only [eRow, List.mem_cons, List.not_mem_nil, or_false] at hx
  rcases hx with rfl | rfl <;> rfl
def cTr : Tr → List V
  | .leaf a => [.bool true, .int .i64 a, .sl [] true .no, .int .i64 0, .int .i64 0, .str [], .sl [] true .no, .sl [] true .no, .sl [] true .no]
  | .ask t y n => [.bool false, .int .i64 0, .sl (t.path.map eNi) t.path.isEmpty .no, .int .i64 t.kind, .int .i64 t.num, .str t.text, .sl [] true .no, .sl [cTr y] false .no, .sl [cTr n] false .no]
def OkRow (r : Row) : Prop := r.2.1.length ≤ 1048576 ∧ (r.2.2 = true → r.2.1 = []) ∧ ∀ x ∈ r.2.1, x.path.length ≤ 4294967296
theorem mem_eraseIdx' {A : Type} {x : A} : ∀ {l : List A} {i : Nat}, x ∈ l.eraseIdx i → x ∈ l := fun h => List.mem_of_mem_eraseIdx h
theorem yesR_ok {t : Tst} {r r' : Row} (h : yesR t r = some r') (hr : OkRow r) : OkRow r' := by
  have h0 := yesR_len h
  unfold yesR at h
  split at h
  · cases h
    exact ⟨Nat.le_trans h0 hr.1, fun e => by simp at e, fun x hx => hr.2.2 x (mem_eraseIdx' hx)⟩
  · split at h
    · cases h
    · cases h; exact hr
theorem noR_ok {t : Tst} {r r' : Row} (h : noR t r = some r') (hr : OkRow r) : OkRow r' := by
  unfold noR at h
  split at h
  · cases h
  · cases h; exact hr
theorem yes_ok {t : Tst} {l : List Row} (h : ∀ r ∈ l, OkRow r) : ∀ r ∈ yesF t l, OkRow r := by
  intro r hr
  obtain ⟨a, ha, he⟩ := List.mem_filterMap.1 hr
  exact yesR_ok he (h a ha)
theorem no_ok {t : Tst} {l : List Row} (h : ∀ r ∈ l, OkRow r) : ∀ r ∈ noF t l, OkRow r := by
  intro r hr
  obtain ⟨a, ha, he⟩ := List.mem_filterMap.1 hr
  exact noR_ok he (h a ha)
theorem yes_len (t : Tst) (l : List Row) : (yesF t l).length ≤ l.length := List.length_filterMap_le _ _
theorem no_len (t : Tst) (l : List Row) : (noF t l).length ≤ l.length := List.length_filterMap_le _ _
theorem yes_take {t : Tst} {l : List Row} {i : Nat} (h : i < l.length) : yesF t (l.take (i + 1)) = yesF t (l.take i) ++ (yesR t l[i]).toList := by
  unfold yesF
  rw [List.take_succ_eq_append_getElem h, List.filterMap_append]
  simp only [List.filterMap_cons, List.filterMap_nil]
  first | done | rfl | (congr 1; done) | skip

theorem no_take {t : Tst} {l : List Row} {i : Nat} (h : i < l.length) : noF t (l.take (i + 1)) = noF t (l.take i) ++ (noR t l[i]).toList := by
  unfold noF
  rw [List.take_succ_eq_append_getElem h, List.filterMap_append]
  simp only [List.filterMap_cons, List.filterMap_nil]
  first | done | rfl | (congr 1; done) | skip

theorem findIdx_idxF {A : Type} (f : A → Bool) (l : List A) : (∃ i, l.findIdx? f = some i ∧ idxF f l = (i : Int) ∧ i < l.length) ∨ (l.findIdx? f = none ∧ idxF f l = -1) := by
  unfold idxF
  by_cases h : l.findIdx f < l.length
  · left
    exact ⟨l.findIdx f, by rw [List.findIdx?_eq_some_iff_findIdx_eq]; exact ⟨h, rfl⟩, by rw [if_pos h], h⟩
  · right
    refine ⟨?_, by rw [if_neg h]⟩
    rw [List.findIdx?_eq_none_iff]
    intro x hx
    cases hc : f x with
    | false => rfl
    | true => exact absurd (List.findIdx_lt_length_of_exists ⟨x, hx, hc⟩) h
theorem cTr_ask (t : Tst) (y n : Tr) : cTr (.ask t y n) = [.bool false, .int .i64 0, .sl (t.path.map eNi) t.path.isEmpty .no, .int .i64 t.kind, .int .i64 t.num, .str t.text, .sl [] true .no, .sl [cTr y] false .no, .sl [cTr n] false .no] := rfl
theorem cTr_len (x : Tr) : (cTr x).length = 9 := by cases x <;> rfl
theorem leaf_le (a : Int) : Vle (.agg [.bool true, .int .i64 a, .sl [] true .full, .int .i64 0, .int .i64 0, .str [], .sl [] true .full, .sl [] true .full, .sl [] true .full]) (.agg (cTr (.leaf a))) := by
  unfold cTr
  exact Vle.aggL (by repeat (first | exact .nil | refine .cons (Vle.refl _) ?_ | refine .cons Vle.untag ?_ | refine .cons (Vle.aggL ?_) ?_ | refine .cons (Vle.slE ?_) ?_))
theorem cases3 (t : Tst) (a : Int) (ts : List Tst) (b : Bool) :
    (∃ i : Nat, idxF (fun x => sameT x t) ts = (i : Int) ∧ i < ts.length ∧ yesR t (a, ts, b) = some (a, ts.eraseIdx i, false) ∧ noR t (a, ts, b) = none) ∨
    (idxF (fun x => sameT x t) ts = -1 ∧ ∃ j : Nat, idxF (fun x => decide (x.path = t.path)) ts = (j : Int) ∧ yesR t (a, ts, b) = none ∧ noR t (a, ts, b) = some (a, ts, b)) ∨
    (idxF (fun x => sameT x t) ts = -1 ∧ idxF (fun x => decide (x.path = t.path)) ts = -1 ∧ yesR t (a, ts, b) = some (a, ts, b) ∧ noR t (a, ts, b) = some (a, ts, b)) := by
  rcases findIdx_idxF (fun x => sameT x t) ts with ⟨i, h1, h2, h3⟩ | ⟨h1, h2⟩
  · exact .inl ⟨i, h2, h3, by unfold yesR; simp only [h1], by unfold noR; simp only [h1]⟩
  · rcases findIdx_idxF (fun x : Tst => decide (x.path = t.path)) ts with ⟨j, g1, g2, g3⟩ | ⟨g1, g2⟩
    · exact .inr (.inl ⟨h2, j, g2, by unfold yesR; simp only [h1, g1], by unfold noR; simp only [h1]⟩)
    · exact .inr (.inr ⟨h2, g2, by unfold yesR; simp only [h1, g1], by unfold noR; simp only [h1]⟩)
end ar
theorem q_build : ∀ (n : Nat) (rows : List Row) (nl : Bool) (tg : Tag), tot rows ≤ n → rows.length ≤ 1048576 → (∀ r ∈ rows, OkRow r) → Quiet Try.prog 110 [.sl (rows.map eRow) nl tg] (.agg (cTr (buildF n rows))) := by
  intro n
  induction n using Nat.strongRecOn with
  | _ n ih =>
  intro rows nl tg hn hl hok
  refine Quiet.weak fun G => ?_
  refine acall_body (rs := [.cell 2 129]) Try.func110 rfl rfl Try.ntmps110 (by kernel_rfl) (Nat.le_of_ble_eq_true rfl) ?_
  refine aw_sr rfl ?_  -- r0 @arms.go:61
  simp only [go_sem, reduceIte, Nat.reduceEqDiff, Nat.reduceAdd, Nat.reduceMul, Nat.reduceSub, Nat.reduceLeDiff, Nat.reduceLT, reduceCtorEq]
  intro b2 hb2
  refine aw_box1 hb2 fun B1 hs1 h2 => ?_
  have hsB := hs1
  refine aw_seq fun K1 hK1 => ?_
  refine aw_sr rfl ?_  -- r1 @arms.go:62
  simp only [go_sem, reduceIte, Nat.reduceEqDiff, Nat.reduceAdd, Nat.reduceMul, Nat.reduceSub, Nat.reduceLeDiff, Nat.reduceLT, reduceCtorEq]
  cases hrows : rows with
  | nil =>
    refine aw_if rfl (fun h => ?_) (fun h => by simp at h)
    refine aw_sr rfl ?_  -- r2 @arms.go:63
    simp only [go_sem, reduceIte, Nat.reduceEqDiff, Nat.reduceAdd, Nat.reduceMul, Nat.reduceSub, Nat.reduceLeDiff, Nat.reduceLT, reduceCtorEq, h2]
    refine aw_ret ⟨trivial, ?_⟩
    simp only [go_sem, reduceIte, Nat.reduceEqDiff, Nat.reduceAdd, Nat.reduceMul, Nat.reduceSub, Nat.reduceLeDiff, Nat.reduceLT, reduceCtorEq, resL, resOf, hget_hset_self h2]
    refine ⟨_, rfl, ?_, sub_hset_fresh hb2 hsB⟩
    rw [show buildF n [] = .leaf (-1) by cases n <;> rfl]
    exact leaf_le _
  | cons r0 l =>
  rw [← hrows]
  have hpos : 0 < rows.length := by rw [hrows]; simp
  have h0 : rows[0] = r0 := by simp [hrows]
  have hg0 : (rows.map eRow).getD (Int.toNat 0) [] = eRow r0 := by rw [← h0]; exact getD_map hpos
  obtain ⟨a0, ts0, nl0⟩ := r0
  refine aw_if rfl (fun h => ?_) (fun h => ?_)
  · have : rows.length = 0 := by simpa using h
    omega
  refine aw_skip (hK1 _ _ ?_)
  refine aw_seq fun K2 hK2 => ?_
  refine aw_sr rfl ?_  -- r3 @arms.go:65
  simp only [go_sem, reduceIte, Nat.reduceEqDiff, Nat.reduceAdd, Nat.reduceMul, Nat.reduceSub, Nat.reduceLeDiff, Nat.reduceLT, reduceCtorEq, hg0, eRow]
  refine ⟨⟨by omega, by omega, wid_eRow _⟩, ?_⟩
  cases hts : ts0 with
  | nil =>
    rw [hts] at hg0 hrows
    refine aw_if rfl (fun h => ?_) (fun h => by simp at h)
    refine aw_sr rfl ?_  -- r4 @arms.go:66
    simp only [go_sem, reduceIte, Nat.reduceEqDiff, Nat.reduceAdd, Nat.reduceMul, Nat.reduceSub, Nat.reduceLeDiff, Nat.reduceLT, reduceCtorEq, h2, hg0, eRow]
    refine ⟨⟨by omega, by omega, wid_eRow _⟩, ?_⟩
    refine aw_ret ⟨trivial, ?_⟩
    simp only [go_sem, reduceIte, Nat.reduceEqDiff, Nat.reduceAdd, Nat.reduceMul, Nat.reduceSub, Nat.reduceLeDiff, Nat.reduceLT, reduceCtorEq, resL, resOf, hget_hset_self h2]
    refine ⟨_, rfl, ?_, sub_hset_fresh hb2 hsB⟩
    rw [hrows, show buildF n ((a0, [], nl0) :: l) = .leaf a0 by cases n <;> rfl]
    exact leaf_le _
  | cons t ts =>
  rw [← hts]
  refine aw_if rfl (fun h => ?_) (fun h => ?_)
  · rw [hts] at h; simp at h; omega
  refine aw_skip (hK2 _ _ ?_)
  have hg1 : (ts0.map eTst).getD (Int.toNat 0) [] = eTst t := by rw [hts]; rfl
  have hp1 : 0 < ts0.length := by rw [hts]; simp
  refine aw_sr rfl ?_  -- r5 @arms.go:68
  simp only [go_sem, reduceIte, Nat.reduceEqDiff, Nat.reduceAdd, Nat.reduceMul, Nat.reduceSub, Nat.reduceLeDiff, Nat.reduceLT, reduceCtorEq, hg0, hg1, eRow, eTst]
  refine ⟨⟨by omega, by omega, wid_eRow _⟩, ⟨by omega, by omega, wid_eTst _⟩, ?_⟩
  intro b3 hb3
  refine aw_box1 hb3 fun B2 hs2 h3 => ?_
  replace h2 := hs2 _ _ h2
  replace hsB := sub_trans hsB hs2
  have hr2 : hget G b3 = none := sub_none hs1 hb3
  refine aw_sr rfl ?_  -- r6 @arms.go:69
  simp only [go_sem, reduceIte, Nat.reduceEqDiff, Nat.reduceAdd, Nat.reduceMul, Nat.reduceSub, Nat.reduceLeDiff, Nat.reduceLT, reduceCtorEq]
  refine aw_seq fun K3 hK3 => ?_
  refine aw_sr rfl ?_  -- r7 @arms.go:70
  simp only [go_sem, reduceIte, Nat.reduceEqDiff, Nat.reduceAdd, Nat.reduceMul, Nat.reduceSub, Nat.reduceLeDiff, Nat.reduceLT, reduceCtorEq]
  refine aw_range rows.length (S := Tag × Tag × Heap) (fun i s => [(2, .ptr b2 0), (3, .ptr b3 0), (4, .sl ((yesF t (rows.take i)).map eRow) (yesF t (rows.take i)).isEmpty s.1), (5, .sl ((noF t (rows.take i)).map eRow) (noF t (rows.take i)).isEmpty s.2.1), (31, .sl (rows.map eRow) nl tg)]) (fun _ s => s.2.2)
    (fun i s => Rm G s.2.2 2 s.1 ∧ Rm G s.2.2 2 s.2.1 ∧ Dis s.1 s.2.1 ∧ Sub G s.2.2 ∧ hget s.2.2 b2 = hget B2 b2 ∧ hget s.2.2 b3 = hget B2 b3) (.full, .full, B2) (by omega) ?_ (fun _ _ h => h) ⟨Rm.start _ _ _, Rm.start _ _ _, Dis.full _, hsB, rfl, rfl⟩ rfl (fun _ _ => rfl) ?_ ?_ (by decide)
  · simp only [go_sem, reduceIte, Nat.reduceEqDiff, Nat.reduceAdd, Nat.reduceMul, Nat.reduceSub, Nat.reduceLeDiff, Nat.reduceLT, reduceCtorEq, Int.natCast_zero, List.take_zero, show yesF t [] = [] from rfl, show noF t [] = [] from rfl]
  · intro i ⟨t4, t5, H⟩ hi ⟨hr4, hr5, hd, hsH, j2, j3⟩
    simp only at hr4 hr5 hd hsH j2 j3 ⊢
    rw [h2] at j2
    rw [h3] at j3
    have hyt := yes_take (t := t) hi
    have hnt := no_take (t := t) hi
    have hyl : (yesF t (rows.take i)).length ≤ i := Nat.le_trans (yes_len t (rows.take i)) (by rw [List.length_take]; omega)
    have hnl : (noF t (rows.take i)).length ≤ i := Nat.le_trans (no_len t (rows.take i)) (by rw [List.length_take]; omega)
    have hokr := hok _ (List.getElem_mem hi)
    have hgi : (rows.map eRow).getD i [] = eRow rows[i] := getD_map hi
    generalize rows[i] = ri at hyt hnt hokr hgi
    obtain ⟨a1, ts1, nl1⟩ := ri
    obtain ⟨ho1, ho2, ho3⟩ := hokr
    simp only at ho1 ho2 ho3
    refine aw_sr rfl ?_  -- r9 @arms.go:70
    simp only [go_sem, reduceIte, Nat.reduceEqDiff, Nat.reduceAdd, Nat.reduceMul, Nat.reduceSub, Nat.reduceLeDiff, Nat.reduceLT, reduceCtorEq, hgi, eRow]
    refine ⟨⟨by omega, by omega, wid_eRow _⟩, ?_⟩
    intro b7 hb7
    refine aw_box1 hb7 fun B3 hs3 h7 => ?_
    replace hr4 := hr4.sub hs3
    replace hr5 := hr5.sub hs3
    have hsG := sub_trans hsH hs3
    have k2 := hs3 _ _ j2
    have k3 := hs3 _ _ j3
    have hon := sub_one k3
    refine aw_sr rfl ?_  -- r10 @arms.go:71
    simp only [go_sem, reduceIte, Nat.reduceEqDiff, Nat.reduceAdd, Nat.reduceMul, Nat.reduceSub, Nat.reduceLeDiff, Nat.reduceLT, reduceCtorEq, k3, h7]
    refine goA_on (q_IndexTst [(b3, .vars (eTst t))] 192 [] [.ptr b3 0] (fun x => sameT x t) ts1 nl1 .no (by omega) fun x hx => q_build1 x b3 t (ho3 x hx)) hon ?_
    simp only [go_sem, reduceIte, Nat.reduceEqDiff, Nat.reduceAdd, Nat.reduceMul, Nat.reduceSub, Nat.reduceLeDiff, Nat.reduceLT, reduceCtorEq, k3, h7]
    refine aw_sr rfl ?_  -- r11 @arms.go:72
    simp only [go_sem, reduceIte, Nat.reduceEqDiff, Nat.reduceAdd, Nat.reduceMul, Nat.reduceSub, Nat.reduceLeDiff, Nat.reduceLT, reduceCtorEq, k3, h7]
    refine goA_on (q_IndexTst [(b3, .vars (eTst t))] 194 [] [.ptr b3 0] (fun x => decide (x.path = t.path)) ts1 nl1 .no (by omega) fun x hx => q_build2 x b3 t (ho3 x hx)) hon ?_
    simp only [go_sem, reduceIte, Nat.reduceEqDiff, Nat.reduceAdd, Nat.reduceMul, Nat.reduceSub, Nat.reduceLeDiff, Nat.reduceLT, reduceCtorEq, k3, h7]
    refine aw_block ?_  -- 2
    rcases cases3 t a1 ts1 nl1 with ⟨i1, e1, l1, y1, n1⟩ | ⟨e1, j1, e2, y1, n1⟩ | ⟨e1, e2, y1, n1⟩
    · rw [y1] at hyt
      rw [n1] at hnt
      rw [e1]
      generalize idxF (fun x : Tst => decide (x.path = t.path)) ts1 = e2
      have hne : ts1 ≠ [] := by intro e; subst e; simp at l1
      have hnl1 : nl1 = false := by cases nl1 with | false => rfl | true => exact absurd (ho2 rfl) hne
      subst hnl1
      refine aw_sr rfl ?_  -- r13 @arms.go:74
      simp only [go_sem, reduceIte, Nat.reduceEqDiff, Nat.reduceAdd, Nat.reduceMul, Nat.reduceSub, Nat.reduceLeDiff, Nat.reduceLT, reduceCtorEq]
      refine aw_if rfl (fun h => ?_) (fun h => by simp at h)
      have hw : IntKind.i64.wrap ((i1 : Int) + 1) = (i1 : Int) + 1 := wrap64 (by omega) (by omega)
      refine aw_rgt [(0,true),(1,true),(2,false),(3,true),(4,false),(5,false),(6,true),(7,true),(8,true),(9,false),(10,true),(11,true),(12,false),(13,true)]
        (.fork2 [(0,true),(1,true),(3,true),(6,true),(7,true),(8,true)] 2 4 (.leaf [(4,false),(5,false),(9,false),(10,true),(11,true),(12,false),(13,true)]) (.fork2 [] 2 5 (.leaf [(5,false),(9,false),(10,true),(11,true),(12,false),(13,true)]) (.fork2 [] 2 9 (.leaf [(9,false),(10,true),(11,true),(12,false),(13,true)]) (.leaf [(2,false),(10,true),(11,true),(12,false),(13,true)])))) mixed rfl (by kernel_rfl) ?_  -- r14 @arms.go:75
      simp only [go_sem, reduceIte, Nat.reduceEqDiff, Nat.reduceAdd, Nat.reduceMul, Nat.reduceSub, Nat.reduceLeDiff, Nat.reduceLT, reduceCtorEq, goTr, h7, hw]
      repeat' first
        | (refine goA_by (a_CloneT ts1 .no ho1 hne B3) fun y G3 hy => ?_
           obtain ⟨b8, c8, rfl, q1, q2, q3, q4⟩ := hy
           have g7 := q4 _ _ h7
           simp only [go_sem, reduceIte, Nat.reduceEqDiff, Nat.reduceAdd, Nat.reduceMul, Nat.reduceSub, Nat.reduceLeDiff, Nat.reduceLT, reduceCtorEq, goTr, g7])
        | (refine goA_by (a_DeleteT ts1 b8 c8 i1 G3 q3 ho1 q1 l1) fun y G4 hy => ?_
           obtain ⟨rfl, q5⟩ := hy
           have q6 : Sub B3 G4 := fun b o hb => q5 b o (q4 b o hb) (fun e => by subst e; rw [q2] at hb; cases hb)
           have f7 := q6 _ _ h7
           simp only [go_sem, reduceIte, Nat.reduceEqDiff, Nat.reduceAdd, Nat.reduceMul, Nat.reduceSub, Nat.reduceLeDiff, Nat.reduceLT, reduceCtorEq, goTr, f7])
        | (refine goP_rm (hr4.sub q6) (sub_trans hsG q6) ⟨rfl, rfl, by decide, wid_eRow _, wid_one rfl, by simp [sca, scalarV], by simp only [List.length_map, List.length_cons, List.length_nil]; omega, by simp only [List.length_map, List.length_cons, List.length_nil]; omega⟩ fun t9 H9 hr9 hs9 hg9 => ?_
           simp only [go_sem, reduceIte, Nat.reduceEqDiff, Nat.reduceAdd, Nat.reduceMul, Nat.reduceSub, Nat.reduceLeDiff, Nat.reduceLT, reduceCtorEq]
           refine ⟨(t9, t5, H9), ⟨hr9, (hg9.2 _ _ _ (hr5.sub q6) hd).1, (hg9.2 _ _ _ (hr5.sub q6) hd).2, hs9, (hg9.vars (q6 _ _ k2)).trans h2.symm, (hg9.vars (q6 _ _ k3)).trans h3.symm⟩, ?_, sub_rfl⟩
           rw [hyt, hnt]
           simp only [Option.toList, List.append_nil, List.map_append, List.map_cons, List.map_nil, eRow, isE_snoc', List.isEmpty_cons, Bool.and_false]
           exact (by repeat' first | exact rfl | exact trivial | refine And.intro ?_ ?_))
        | refine And.intro ?_ ?_
    · rw [y1] at hyt
      rw [n1] at hnt
      rw [e1, e2]
      refine aw_sr rfl ?_  -- r13 @arms.go:74
      simp only [go_sem, reduceIte, Nat.reduceEqDiff, Nat.reduceAdd, Nat.reduceMul, Nat.reduceSub, Nat.reduceLeDiff, Nat.reduceLT, reduceCtorEq]
      refine aw_if rfl (fun h => by simp at h) (fun h => ?_)
      refine aw_sr rfl ?_  -- r15 @arms.go:76
      simp only [go_sem, reduceIte, Nat.reduceEqDiff, Nat.reduceAdd, Nat.reduceMul, Nat.reduceSub, Nat.reduceLeDiff, Nat.reduceLT, reduceCtorEq]
      refine aw_if rfl (fun h => ?_) (fun h => by simp at h)
      refine aw_rg rfl ?_  -- r16 @arms.go:77
      simp only [go_sem, reduceIte, Nat.reduceEqDiff, Nat.reduceAdd, Nat.reduceMul, Nat.reduceSub, Nat.reduceLeDiff, Nat.reduceLT, reduceCtorEq, h7]
      refine goP_rm hr5 hsG ⟨rfl, rfl, by decide, wid_eRow _, wid_one rfl, by simp [sca, scalarV], by simp only [List.length_map, List.length_cons, List.length_nil]; omega, by simp only [List.length_map, List.length_cons, List.length_nil]; omega⟩ fun t9 H9 hr9 hs9 hg9 => ?_
      simp only [go_sem, reduceIte, Nat.reduceEqDiff, Nat.reduceAdd, Nat.reduceMul, Nat.reduceSub, Nat.reduceLeDiff, Nat.reduceLT, reduceCtorEq]
      refine ⟨(t4, t9, H9), ⟨(hg9.2 _ _ _ hr4 hd.symm).1, hr9, (hg9.2 _ _ _ hr4 hd.symm).2.symm, hs9, (hg9.vars k2).trans h2.symm, (hg9.vars k3).trans h3.symm⟩, ?_, sub_rfl⟩
      rw [hyt, hnt]
      simp only [Option.toList, List.append_nil, List.map_append, List.map_cons, List.map_nil, eRow, isE_snoc', List.isEmpty_cons, Bool.and_false]
      exact (by repeat' first | exact rfl | exact trivial | refine And.intro ?_ ?_)
    · rw [y1] at hyt
      rw [n1] at hnt
      rw [e1, e2]
      refine aw_sr rfl ?_  -- r13 @arms.go:74
      simp only [go_sem, reduceIte, Nat.reduceEqDiff, Nat.reduceAdd, Nat.reduceMul, Nat.reduceSub, Nat.reduceLeDiff, Nat.reduceLT, reduceCtorEq]
      refine aw_if rfl (fun h => by simp at h) (fun h => ?_)
      refine aw_sr rfl ?_  -- r15 @arms.go:76
      simp only [go_sem, reduceIte, Nat.reduceEqDiff, Nat.reduceAdd, Nat.reduceMul, Nat.reduceSub, Nat.reduceLeDiff, Nat.reduceLT, reduceCtorEq]
      refine aw_if rfl (fun h => by simp at h) (fun h => ?_)
      refine aw_rgt [(0,true),(1,false),(2,true),(3,false),(4,true),(5,false),(6,true),(7,false),(8,true),(9,true)]
        (.fork2 [(0,true),(4,true)] 1 5 (.fork2 [(2,true)] 3 5 (.leaf [(5,false),(6,true),(7,false),(8,true),(9,true)]) (.leaf [(6,true),(3,false),(7,false),(8,true),(9,true)])) (.leaf [(6,true),(1,false),(2,true),(3,false),(7,false),(8,true),(9,true)])) mixed rfl (by kernel_rfl) ?_  -- r12 @arms.go:79
      simp only [go_sem, reduceIte, Nat.reduceEqDiff, Nat.reduceAdd, Nat.reduceMul, Nat.reduceSub, Nat.reduceLeDiff, Nat.reduceLT, reduceCtorEq, goTr, h7]
      repeat' first
        | (refine goP_rm hr4 hsG ⟨rfl, rfl, by decide, wid_eRow _, wid_one rfl, by simp [sca, scalarV], by simp only [List.length_map, List.length_cons, List.length_nil]; omega, by simp only [List.length_map, List.length_cons, List.length_nil]; omega⟩ fun t8 H8 hr8 hs8 hg8 => ?_
           have k7 := hg8.vars h7
           simp only [go_sem, reduceIte, Nat.reduceEqDiff, Nat.reduceAdd, Nat.reduceMul, Nat.reduceSub, Nat.reduceLeDiff, Nat.reduceLT, reduceCtorEq, goTr, k7])
        | (refine goP_rm (hg8.2 _ _ _ hr5 hd).1 hs8 ⟨rfl, rfl, by decide, wid_eRow _, wid_one rfl, by simp [sca, scalarV], by simp only [List.length_map, List.length_cons, List.length_nil]; omega, by simp only [List.length_map, List.length_cons, List.length_nil]; omega⟩ fun t9 H9 hr9 hs9 hg9 => ?_
           simp only [go_sem, reduceIte, Nat.reduceEqDiff, Nat.reduceAdd, Nat.reduceMul, Nat.reduceSub, Nat.reduceLeDiff, Nat.reduceLT, reduceCtorEq]
           have hd8 := (hg8.2 _ _ _ hr5 hd).2
           refine ⟨(t8, t9, H9), ⟨(hg9.2 _ _ _ hr8 hd8.symm).1, hr9, (hg9.2 _ _ _ hr8 hd8.symm).2.symm, hs9, (hg9.vars (hg8.vars k2)).trans h2.symm, (hg9.vars (hg8.vars k3)).trans h3.symm⟩, ?_, sub_rfl⟩
           rw [hyt, hnt]
           simp only [Option.toList, List.append_nil, List.map_append, List.map_cons, List.map_nil, eRow, isE_snoc', List.isEmpty_cons, Bool.and_false]
           exact (by repeat' first | exact rfl | exact trivial | refine And.intro ?_ ?_))
        | refine And.intro ?_ ?_
  intro ⟨t4, t5, H⟩ ⟨hr4, hr5, hd, hsG, j2, j3⟩
  simp only at hr4 hr5 hd hsG j2 j3 ⊢
  rw [List.take_length]
  rw [h2] at j2
  rw [h3] at j3
  have htot : tot rows = ts.length + 1 + tot l := by rw [hrows, tot_cons, hts]; simp
  obtain ⟨k, rfl⟩ : ∃ k, n = k + 1 := ⟨n - 1, by omega⟩
  have hy1 : tot (yesF t rows) ≤ k := by
    have := tot_yes t l
    rw [hrows, hts, yes_head, tot_cons]
    simp only
    omega
  have hn1 : tot (noF t rows) ≤ k := by
    have := tot_no t l
    rw [hrows, hts, no_head]
    omega
  have hq1 := ih k (by omega) (yesF t rows) (yesF t rows).isEmpty t4 hy1 (Nat.le_trans (yes_len t rows) hl) (yes_ok hok)
  have hq2 := ih k (by omega) (noF t rows) (noF t rows).isEmpty t5 hn1 (Nat.le_trans (no_len t rows) hl) (no_ok hok)
  have hF : buildF (k + 1) rows = .ask t (buildF k (yesF t rows)) (buildF k (noF t rows)) := by
    rw [hrows, hts]; rfl
  refine hK3 _ _ ?_
  refine aw_srd [(0,true),(1,true),(2,true),(3,true),(4,true),(5,true),(6,true),(7,true),(8,false)] mixed rfl (by kernel_rfl) ?_  -- r18 @arms.go:82
  simp only [go_sem, reduceIte, Nat.reduceEqDiff, Nat.reduceAdd, Nat.reduceMul, Nat.reduceSub, Nat.reduceLeDiff, Nat.reduceLT, reduceCtorEq, j2, j3, cTr_len]
  refine goQ_by hq1 ?_
  simp only [go_sem, reduceIte, Nat.reduceEqDiff, Nat.reduceAdd, Nat.reduceMul, Nat.reduceSub, Nat.reduceLeDiff, Nat.reduceLT, reduceCtorEq, j2, j3, cTr_len]
  refine goQ_by hq2 ?_
  simp only [go_sem, reduceIte, Nat.reduceEqDiff, Nat.reduceAdd, Nat.reduceMul, Nat.reduceSub, Nat.reduceLeDiff, Nat.reduceLT, reduceCtorEq, j2, j3, cTr_len]
  refine aw_ret ⟨trivial, ?_⟩
  simp only [go_sem, reduceIte, Nat.reduceEqDiff, Nat.reduceAdd, Nat.reduceMul, Nat.reduceSub, Nat.reduceLeDiff, Nat.reduceLT, reduceCtorEq, resL, resOf, hget_hset_self j2]
  refine ⟨_, rfl, ?_, sub_hset_fresh hb2 hsG⟩
  rw [hF, cTr_ask]
  exact Vle.aggL (by repeat (first | exact .nil | refine .cons (Vle.refl _) ?_ | refine .cons Vle.untag ?_ | refine .cons (Vle.aggL ?_) ?_ | refine .cons (Vle.slE ?_) ?_))
end Go.Proofs.Ytclmcpbanaojfaa

/- A part of a value; whether a question holds; the tree of patterns, and what it picks. Conditions: sizes. -/
set_option linter.unusedSimpArgs false
set_option linter.unusedVariables false
namespace Go.Proofs.Ytclmcpbanaojfaa
open Go.Proofs.YtclmcpbanaojfaaV
open ar
set_option maxHeartbeats 4000000
set_option maxRecDepth 100000
namespace ar
def parV (o : Option Val) : V := .tup [.agg (cV (o.getD zVl)), .bool o.isSome]
theorem part_none {v : Val} {path : List Int} {i : Nat} (h : i < path.length) (hn : ¬ (v.kind = 5 ∧ 0 ≤ path[i] ∧ path[i] < v.args.length)) : partF v (path.drop i) = none := by
  rw [List.drop_eq_getElem_cons h, partF, if_neg hn]
theorem part_next {v : Val} {path : List Int} {i : Nat} (h : i < path.length) (hn : v.kind = 5 ∧ 0 ≤ path[i] ∧ path[i] < v.args.length) : partF v (path.drop i) = partF (v.args.getD path[i].toNat zVl) (path.drop (i + 1)) := by
  rw [List.drop_eq_getElem_cons h, partF, if_pos hn]
end ar
theorem q_part (v : Val) (path : List Int) (nl : Bool) (t : Tag) (hv : OkVal v) (hl : path.length ≤ 4398046511104) : Quiet Try.prog 190 [.agg (cV v), .sl (path.map eNi) nl t] (parV (partF v path)) := by
  refine Quiet.weak fun G => ?_
  refine acall_body (rs := [.cell 4 110, .tmp 5]) Try.func190 rfl rfl Try.ntmps190 (by kernel_rfl) (Nat.le_of_ble_eq_true rfl) ?_
  refine aw_sr rfl ?_  -- r0 @arms.go:86
  simp only [go_sem, reduceIte, Nat.reduceEqDiff, Nat.reduceAdd, Nat.reduceMul, Nat.reduceSub, Nat.reduceLeDiff, Nat.reduceLT, reduceCtorEq]
  intro b2 hb2
  intro b4 hb4
  refine aw_box2 hb2 hb4 fun B1 hs1 h2 h4 n1 n2 => ?_
  have hg4 : hget G b4 = none := by
    first | exact hb4 | exact (none_cons hb4).2
  have hsB := hs1
  refine aw_seq fun K1 hK1 => ?_
  refine aw_sr rfl ?_  -- r1 @arms.go:87
  simp only [go_sem, reduceIte, Nat.reduceEqDiff, Nat.reduceAdd, Nat.reduceMul, Nat.reduceSub, Nat.reduceLeDiff, Nat.reduceLT, reduceCtorEq]
  refine aw_range path.length (S := Val × Heap) (fun i _ => [(2, .ptr b2 0), (4, .ptr b4 0), (8, .sl (path.map eNi) nl t)]) (fun _ s => s.2) (fun i s => Sub G s.2 ∧ hget s.2 b2 = some (.vars (cV s.1)) ∧ hget s.2 b4 = hget B1 b4 ∧ OkVal s.1 ∧ partF v path = partF s.1 (path.drop i)) (v, B1) (by omega) ?_ (fun _ _ h => h) ⟨hsB, h2, rfl, hv, rfl⟩ rfl (fun _ _ => rfl) ?_ ?_ (by decide)
  · simp only [go_sem, reduceIte, Nat.reduceEqDiff, Nat.reduceAdd, Nat.reduceMul, Nat.reduceSub, Nat.reduceLeDiff, Nat.reduceLT, reduceCtorEq, Int.natCast_zero]
  · intro i ⟨w, H⟩ hi ⟨hsH, j2, j4, hw, hp⟩
    simp only at hsH j2 j4 hw hp ⊢
    rw [h4] at j4
    have hwl := hw.len
    refine aw_sr rfl ?_  -- r3 @arms.go:87
    simp only [go_sem, reduceIte, Nat.reduceEqDiff, Nat.reduceAdd, Nat.reduceMul, Nat.reduceSub, Nat.reduceLeDiff, Nat.reduceLT, reduceCtorEq, getD_map hi, eNi, mk.eN]
    refine ⟨⟨by omega, by omega, mk.wid_eN _⟩, ?_⟩
    have hnone := part_none (v := w) hi
    have hnext := part_next (v := w) hi
    generalize path[i] = x at hnone hnext
    refine aw_seq fun K2 hK2 => ?_
    refine aw_sr rfl ?_  -- r4 @arms.go:88
    simp only [go_sem, reduceIte, Nat.reduceEqDiff, Nat.reduceAdd, Nat.reduceMul, Nat.reduceSub, Nat.reduceLeDiff, Nat.reduceLT, reduceCtorEq, j2]
    refine aw_if rfl (fun h => ?_) (fun h => ?_)
    · refine aw_sr rfl ?_  -- r5 @arms.go:89
      simp only [go_sem, reduceIte, Nat.reduceEqDiff, Nat.reduceAdd, Nat.reduceMul, Nat.reduceSub, Nat.reduceLeDiff, Nat.reduceLT, reduceCtorEq, j4]
      refine aw_ret ⟨trivial, ?_⟩
      simp only [go_sem, reduceIte, Nat.reduceEqDiff, Nat.reduceAdd, Nat.reduceMul, Nat.reduceSub, Nat.reduceLeDiff, Nat.reduceLT, reduceCtorEq, resL, resOf, hget_hset_self j4]
      have hno : ¬ (w.kind = 5 ∧ 0 ≤ x ∧ x < w.args.length) := by
        intro ⟨a1, a2, a3⟩
        simp [a1] at h
        omega
      refine ⟨_, rfl, ?_, sub_hset_fresh hg4 hsH⟩
      rw [hp, hnone hno]
      exact Vle.tupL (.cons (Vle.aggL (by repeat (first | exact .nil | refine .cons (Vle.refl _) ?_ | refine .cons Vle.untag ?_ | refine .cons (Vle.aggL ?_) ?_ | refine .cons (Vle.slE ?_) ?_))) (.cons (Vle.refl _) .nil))
    refine aw_skip (hK2 _ _ ?_)
    have hyes : w.kind = 5 ∧ 0 ≤ x ∧ x < w.args.length := by
      simp only [Bool.or_eq_false_iff, decide_eq_false_iff_not, Decidable.not_not] at h
      omega
    have hx : x.toNat < w.args.length := by omega
    rw [hnext hyes] at hp
    rw [List.getD_eq_getElem?_getD, List.getElem?_eq_getElem hx, Option.getD_some] at hp
    have hgd : (w.args.map eVal).getD x.toNat [] = eVal w.args[x.toNat] := getD_map hx
    have hm : w.args[x.toNat] ∈ w.args := List.getElem_mem hx
    refine aw_rg rfl ?_  -- r6 @arms.go:91
    simp only [go_sem, reduceIte, Nat.reduceEqDiff, Nat.reduceAdd, Nat.reduceMul, Nat.reduceSub, Nat.reduceLeDiff, Nat.reduceLT, reduceCtorEq, j2, hgd, eC, cV]
    refine ⟨⟨by omega, by omega, wid_eVal _⟩, ?_⟩
    refine ⟨(w.args[x.toNat], _), ⟨sub_hset_fresh hb2 hsH, hget_hset_self j2, by rw [h4, hget_hset_ne n2]; exact j4, hw.arg hm, hp⟩, ?_, sub_rfl⟩
    exact (by repeat' first | exact rfl | exact trivial | refine And.intro ?_ ?_)
  intro ⟨w, H⟩ ⟨hsH, j2, j4, hw, hp⟩
  simp only at hsH j2 j4 hw hp ⊢
  rw [h4] at j4
  rw [List.drop_length] at hp
  refine hK1 _ _ ?_
  refine aw_sr rfl ?_  -- r8 @arms.go:93
  simp only [go_sem, reduceIte, Nat.reduceEqDiff, Nat.reduceAdd, Nat.reduceMul, Nat.reduceSub, Nat.reduceLeDiff, Nat.reduceLT, reduceCtorEq, j2, j4]
  refine aw_ret ⟨trivial, ?_⟩
  simp only [go_sem, reduceIte, Nat.reduceEqDiff, Nat.reduceAdd, Nat.reduceMul, Nat.reduceSub, Nat.reduceLeDiff, Nat.reduceLT, reduceCtorEq, resL, resOf, hget_hset_self j4]
  refine ⟨_, rfl, ?_, sub_hset_fresh hg4 hsH⟩
  rw [hp]
  exact Vle.refl _
theorem q_Holds (t : Tst) (v : Val) (hv : OkVal v) (ht : t.path.length ≤ 4294967296) : Quiet Try.prog 108 [aTs t, .agg (cV v)] (.bool (holdsF t v)) := by
  have hq := q_part v t.path t.path.isEmpty .no hv (by omega)
  have hH : holdsF t v = match partF v t.path with | some p => askF t p | none => false := rfl
  refine Quiet.weak fun G => ?_
  refine acall_body (rs := [.tmp 4]) Try.func108 rfl rfl Try.ntmps108 (by kernel_rfl) (Nat.le_of_ble_eq_true rfl) ?_
  refine aw_sr rfl ?_  -- r0 @arms.go:97
  simp only [go_sem, reduceIte, Nat.reduceEqDiff, Nat.reduceAdd, Nat.reduceMul, Nat.reduceSub, Nat.reduceLeDiff, Nat.reduceLT, reduceCtorEq, aTs, eTst]
  intro b2 hb2
  intro b3 hb3
  refine aw_box2 hb2 hb3 fun B1 hs1 h2 h3 _ _ => ?_
  have hsB := hs1
  refine aw_sr rfl ?_  -- r1 @arms.go:98
  simp only [go_sem, reduceIte, Nat.reduceEqDiff, Nat.reduceAdd, Nat.reduceMul, Nat.reduceSub, Nat.reduceLeDiff, Nat.reduceLT, reduceCtorEq, h2, h3]
  refine goA_q hq ?_
  simp only [go_sem, reduceIte, Nat.reduceEqDiff, Nat.reduceAdd, Nat.reduceMul, Nat.reduceSub, Nat.reduceLeDiff, Nat.reduceLT, reduceCtorEq, h2, h3, parV]
  intro b5 hb5
  refine aw_box1 hb5 fun B2 hs2 h5 => ?_
  replace h2 := hs2 _ _ h2
  replace h3 := hs2 _ _ h3
  replace hsB := sub_trans hsB hs2
  refine aw_seq fun K1 hK1 => ?_
  refine aw_sr rfl ?_  -- r2 @arms.go:99
  simp only [go_sem, reduceIte, Nat.reduceEqDiff, Nat.reduceAdd, Nat.reduceMul, Nat.reduceSub, Nat.reduceLeDiff, Nat.reduceLT, reduceCtorEq]
  cases hp : partF v t.path with
  | none =>
    rw [hp] at hH
    simp only [Option.isSome_none]
    refine aw_if rfl (fun h => ?_) (fun h => by simp at h)
    refine aw_sr rfl ?_  -- r3 @arms.go:100
    simp only [go_sem, reduceIte, Nat.reduceEqDiff, Nat.reduceAdd, Nat.reduceMul, Nat.reduceSub, Nat.reduceLeDiff, Nat.reduceLT, reduceCtorEq]
    refine aw_ret ⟨trivial, _, rfl, ?_, hsB⟩
    rw [hH]; exact Vle.refl _
  | some p =>
  rw [hp] at hH h5
  simp only [Option.getD_some] at hH h5
  simp only [Option.isSome_some]
  refine aw_if rfl (fun h => by simp at h) (fun h => ?_)
  refine aw_skip (hK1 _ _ ?_)
  refine aw_seq fun K2 hK2 => ?_
  refine aw_sr rfl ?_  -- r4 @arms.go:102
  simp only [go_sem, reduceIte, Nat.reduceEqDiff, Nat.reduceAdd, Nat.reduceMul, Nat.reduceSub, Nat.reduceLeDiff, Nat.reduceLT, reduceCtorEq, h2]
  refine aw_block ?_  -- 0
  refine aw_chain rfl rfl rfl rfl rfl ?_  -- t18 is one of [3]
  refine aw_if rfl (fun h => ?_) (fun h => ?_)
  · have hk : t.kind = 3 := by simpa using h
    refine aw_sr rfl ?_  -- r6 @arms.go:104
    simp only [go_sem, reduceIte, Nat.reduceEqDiff, Nat.reduceAdd, Nat.reduceMul, Nat.reduceSub, Nat.reduceLeDiff, Nat.reduceLT, reduceCtorEq, h2, h5]
    refine aw_ret ⟨trivial, _, rfl, ?_, hsB⟩
    rw [hH, askF, if_pos hk]; exact Vle.refl _
  have k3 : ¬ t.kind = 3 := by simpa using h
  refine aw_chain rfl rfl rfl rfl rfl ?_  -- t18 is one of [4]
  refine aw_if rfl (fun h => ?_) (fun h => ?_)
  · have hk : t.kind = 4 := by simpa using h
    refine aw_sr rfl ?_  -- r8 @arms.go:106
    simp only [go_sem, reduceIte, Nat.reduceEqDiff, Nat.reduceAdd, Nat.reduceMul, Nat.reduceSub, Nat.reduceLeDiff, Nat.reduceLT, reduceCtorEq, h2, h5]
    refine aw_ret ⟨trivial, _, rfl, ?_, hsB⟩
    rw [hH, askF, if_neg k3, if_pos hk]; exact Vle.refl _
  have k4 : ¬ t.kind = 4 := by simpa using h
  refine aw_chain rfl rfl rfl rfl rfl ?_  -- t18 is one of [5]
  refine aw_if rfl (fun h => ?_) (fun h => ?_)
  · have hk : t.kind = 5 := by simpa using h
    refine aw_sr rfl ?_  -- r10 @arms.go:108
    simp only [go_sem, reduceIte, Nat.reduceEqDiff, Nat.reduceAdd, Nat.reduceMul, Nat.reduceSub, Nat.reduceLeDiff, Nat.reduceLT, reduceCtorEq, h2, h5]
    refine aw_ret ⟨trivial, _, rfl, ?_, hsB⟩
    rw [hH, askF, if_neg k3, if_neg k4, if_pos hk]; exact Vle.refl _
  have k5 : ¬ t.kind = 5 := by simpa using h
  refine aw_chain rfl rfl rfl rfl rfl ?_  -- t18 is one of [6]
  refine aw_if rfl (fun h => ?_) (fun h => ?_)
  · have hk : t.kind = 6 := by simpa using h
    refine aw_sr rfl ?_  -- r12 @arms.go:110
    simp only [go_sem, reduceIte, Nat.reduceEqDiff, Nat.reduceAdd, Nat.reduceMul, Nat.reduceSub, Nat.reduceLeDiff, Nat.reduceLT, reduceCtorEq, h2, h5]
    refine aw_ret ⟨trivial, _, rfl, ?_, hsB⟩
    rw [hH, askF, if_neg k3, if_neg k4, if_neg k5, if_pos hk]; exact Vle.refl _
  have k6 : ¬ t.kind = 6 := by simpa using h
  refine aw_skip (hK2 _ _ ?_)
  refine aw_sr rfl ?_  -- r13 @arms.go:112
  simp only [go_sem, reduceIte, Nat.reduceEqDiff, Nat.reduceAdd, Nat.reduceMul, Nat.reduceSub, Nat.reduceLeDiff, Nat.reduceLT, reduceCtorEq]
  refine aw_ret ⟨trivial, _, rfl, ?_, hsB⟩
  rw [hH, askF, if_neg k3, if_neg k4, if_neg k5, if_neg k6]; exact Vle.refl _
end Go.Proofs.Ytclmcpbanaojfaa

/- The tree of patterns, and what it picks. Conditions: sizes. -/
set_option linter.unusedSimpArgs false
set_option linter.unusedVariables false
namespace Go.Proofs.Ytclmcpbanaojfaa
open Go.Proofs.YtclmcpbanaojfaaV
open ar
set_option maxHeartbeats 4000000
set_option maxRecDepth 100000
namespace ar
def okTr : Tr → Prop
  | .leaf _ => True
  | .ask t y n => t.path.length ≤ 4294967296 ∧ okTr y ∧ okTr n
def Tr.size : Tr → Nat
  | .leaf _ => 0
  | .ask _ y n => y.size + n.size + 1
theorem build_ok : ∀ (n : Nat) (l : List Row), (∀ r ∈ l, OkRow r) → okTr (buildF n l)
  | n, [], _ => by rw [show buildF n [] = .leaf (-1) by cases n <;> rfl]; trivial
  | n, (a, [], b) :: l, _ => by rw [show buildF n ((a, [], b) :: l) = .leaf a by cases n <;> rfl]; trivial
  | 0, (a, t :: ts, b) :: l, _ => trivial
  | n + 1, (a, t :: ts, b) :: l, h => ⟨(h (a, t :: ts, b) (by simp)).2.2 t (by simp), build_ok n _ (yes_ok h), build_ok n _ (no_ok h)⟩
theorem setM9 {b c : List V} (h : b.length = c.length) : setMany b 0 c = c := by
  have := setMany_append c [] b [] h
  simpa using this
theorem cTr_take (x : Tr) : List.take 9 (cTr x) = cTr x := by rw [← cTr_len x, List.take_length]
theorem cTr_sca (x : Tr) : (cTr x).all scalarV = true := by cases x <;> rfl
theorem pick_ask (v : Val) (t : Tst) (y n : Tr) : pickF v (.ask t y n) = ((pickF v (if holdsF t v = true then y else n)).1, (pickF v (if holdsF t v = true then y else n)).2 + 1) := by
  rw [pickF]; split <;> rfl
def rowsA : List Pat → Nat → List Row
  | [], _ => []
  | p :: ps, i => ((i : Int), testsF p [], (testsF p []).isEmpty) :: rowsA ps (i + 1)
theorem rowsA_snoc (q : Pat) : ∀ (ps : List Pat) (i : Nat), rowsA (ps ++ [q]) i = rowsA ps i ++ [(((i + ps.length : Nat) : Int), testsF q [], (testsF q []).isEmpty)]
  | [], i => by simp [rowsA]
  | p :: ps, i => by
    rw [List.cons_append, rowsA, rowsA, rowsA_snoc q ps (i + 1), List.length_cons, show i + 1 + ps.length = i + (ps.length + 1) by omega]; rfl
theorem rowsA_take {ps : List Pat} {i : Nat} (h : i < ps.length) : rowsA (ps.take (i + 1)) 0 = rowsA (ps.take i) 0 ++ [((i : Int), testsF ps[i] [], (testsF ps[i] []).isEmpty)] := by
  rw [List.take_succ_eq_append_getElem h, rowsA_snoc, List.length_take, Nat.zero_add, Nat.min_eq_left (by omega)]
theorem rowsA_len : ∀ (ps : List Pat) (i : Nat), (rowsA ps i).length = ps.length
  | [], _ => rfl
  | p :: ps, i => by rw [rowsA, List.length_cons, List.length_cons, rowsA_len ps]
theorem rows_okA : ∀ (l : List Pat) (i : Nat), (∀ p ∈ l, OkPat p ∧ p.sz ≤ bulk) → (∀ p ∈ l, ∀ x ∈ testsF p [], x.path.length ≤ 4294967296) → ∀ r ∈ rowsA l i, OkRow r
  | [], _, _, _ => by intro r hr; simp [rowsA] at hr
  | p :: ps, i, h1, h2 => by
    intro r hr
    rw [rowsA] at hr
    rcases List.mem_cons.1 hr with rfl | hr
    · have hs : p.sz ≤ 1048576 := (h1 p (by simp)).2
      exact ⟨by have := tests_len p []; have := quest_le p; simp only; omega, fun e => by simpa using e, h2 p (by simp)⟩
    · exact rows_okA ps (i + 1) (fun q hq => h1 q (by simp [hq])) (fun q hq => h2 q (by simp [hq])) r hr
end ar
theorem q_Pick (t0 : Tr) (v : Val) (hv : OkVal v) (ht : okTr t0) (hb : (pickF v t0).2 ≤ 1099511627776) : Quiet Try.prog 59 [.agg (cTr t0), .agg (cV v)] (.tup [.int .i64 (pickF v t0).1, .int .i64 (pickF v t0).2]) := by
  refine Quiet.weak fun G => ?_
  refine acall_body (rs := [.tmp 4, .tmp 5]) Try.func59 rfl rfl Try.ntmps59 (by kernel_rfl) (Nat.le_of_ble_eq_true rfl) ?_
  refine aw_sr rfl ?_  -- r0 @arms.go:116
  simp only [go_sem, reduceIte, Nat.reduceEqDiff, Nat.reduceAdd, Nat.reduceMul, Nat.reduceSub, Nat.reduceLeDiff, Nat.reduceLT, reduceCtorEq, cTr_len]
  intro b2 hb2
  intro b3 hb3
  refine aw_box2 hb2 hb3 fun B1 hs1 h2 h3 n23 n32 => ?_
  have hsB := hs1
  have hg3 : hget G b3 = none := (none_cons hb3).2
  refine aw_seq fun K1 hK1 => ?_
  refine aw_block ?_  -- 0
  refine aw_lph (S := {s : Tr × Nat × Heap // okTr s.1 ∧ (pickF v t0).1 = (pickF v s.1).1 ∧ (pickF v t0).2 = (pickF v s.1).2 + s.2.1 ∧ Sub G s.2.2 ∧ hget s.2.2 b2 = some (.vars (cTr s.1)) ∧ hget s.2.2 b3 = hget B1 b3}) (fun s => [(2, .ptr b2 0), (3, .ptr b3 0), (5, .int .i64 s.1.2.1)]) (fun s => s.1.2.2) (fun s => s.1.1.size)
    ⟨(t0, 0, B1), ht, rfl, rfl, hsB, h2, rfl⟩ ?_ (fun _ _ h => h) ?_
  · simp only [go_sem, reduceIte, Nat.reduceEqDiff, Nat.reduceAdd, Nat.reduceMul, Nat.reduceSub, Nat.reduceLeDiff, Nat.reduceLT, reduceCtorEq, Int.natCast_zero]
  intro ⟨⟨x, k, H⟩, hok, e1, e2, hsH, j2, j3⟩
  simp only at hok e1 e2 hsH j2 j3 ⊢
  rw [h3] at j3
  refine aw_seq fun K2 hK2 => ?_
  cases x with
  | leaf a =>
    simp only [cTr] at j2
    refine aw_sr rfl ?_  -- r1 @arms.go:117
    simp only [go_sem, reduceIte, Nat.reduceEqDiff, Nat.reduceAdd, Nat.reduceMul, Nat.reduceSub, Nat.reduceLeDiff, Nat.reduceLT, reduceCtorEq, j2]
    refine aw_if rfl (fun h => by simp at h) (fun h => ?_)
    refine aw_exit ?_  -- 0
    refine hK1 _ _ ?_
    refine aw_sr rfl ?_  -- r9 @arms.go:128
    simp only [go_sem, reduceIte, Nat.reduceEqDiff, Nat.reduceAdd, Nat.reduceMul, Nat.reduceSub, Nat.reduceLeDiff, Nat.reduceLT, reduceCtorEq, j2]
    refine aw_ret ⟨trivial, _, rfl, ?_, hsH⟩
    rw [e1, e2, pickF]
    simp only [Nat.zero_add]
    exact Vle.refl _
  | ask t y n =>
    obtain ⟨hpl, hoky, hokn⟩ := hok
    rw [cTr_ask] at j2
    rw [pick_ask] at e1 e2
    simp only at e1 e2
    have hq := q_Holds t v hv hpl
    simp only [aTs, eTst] at hq
    refine aw_sr rfl ?_  -- r1 @arms.go:117
    simp only [go_sem, reduceIte, Nat.reduceEqDiff, Nat.reduceAdd, Nat.reduceMul, Nat.reduceSub, Nat.reduceLeDiff, Nat.reduceLT, reduceCtorEq, j2]
    refine aw_if rfl (fun h => ?_) (fun h => by simp at h)
    refine aw_skip (hK2 _ _ ?_)
    refine aw_block ?_  -- 1
    have hw : IntKind.i64.wrap ((k : Int) + 1) = (k : Int) + 1 := wrap64 (by omega) (by omega)
    refine aw_sr rfl ?_  -- r2 @arms.go:118
    simp only [go_sem, reduceIte, Nat.reduceEqDiff, Nat.reduceAdd, Nat.reduceMul, Nat.reduceSub, Nat.reduceLeDiff, Nat.reduceLT, reduceCtorEq, hw]
    refine aw_sr rfl ?_  -- r3 @arms.go:119
    simp only [go_sem, reduceIte, Nat.reduceEqDiff, Nat.reduceAdd, Nat.reduceMul, Nat.reduceSub, Nat.reduceLeDiff, Nat.reduceLT, reduceCtorEq, j2]
    refine aw_mid (fun f' G' => FSub [(6, .sl [cTr (if holdsF t v = true then y else n)] false .no), (2, .ptr b2 0), (3, .ptr b3 0), (5, .int .i64 ((k : Int) + 1))] f' ∧ G' = H) ?_ ?_
    · -- 2 ways
      refine aw_sr rfl ?_  -- r4 @arms.go:120
      simp only [go_sem, reduceIte, Nat.reduceEqDiff, Nat.reduceAdd, Nat.reduceMul, Nat.reduceSub, Nat.reduceLeDiff, Nat.reduceLT, reduceCtorEq, j2, j3]
      refine goA_q hq ?_
      simp only [go_sem, reduceIte, Nat.reduceEqDiff, Nat.reduceAdd, Nat.reduceMul, Nat.reduceSub, Nat.reduceLeDiff, Nat.reduceLT, reduceCtorEq, j2, j3]
      refine aw_if rfl (fun h => ?_) (fun h => ?_)
      · refine aw_rg rfl ?_  -- r5 @arms.go:121
        simp only [go_sem, reduceIte, Nat.reduceEqDiff, Nat.reduceAdd, Nat.reduceMul, Nat.reduceSub, Nat.reduceLeDiff, Nat.reduceLT, reduceCtorEq, j2]
        rw [if_pos h]
        exact ⟨(by repeat' first | exact rfl | exact trivial | refine And.intro ?_ ?_), rfl⟩
      · rw [if_neg (by rw [h]; simp)]
        exact aw_skip ⟨(by repeat' first | exact rfl | exact trivial | refine And.intro ?_ ?_), rfl⟩
    intro f' G' ⟨hf, hg⟩
    rw [hg]
    refine AW.of_fsub hf ?_
    have hokz : okTr (if holdsF t v = true then y else n) := by split <;> assumption
    have hsz : (if holdsF t v = true then y else n).size < (Tr.ask t y n).size := by rw [Tr.size]; split <;> omega
    generalize (if holdsF t v = true then y else n) = z at e1 e2 hokz hsz
    refine aw_seq fun K3 hK3 => ?_
    refine aw_sr rfl ?_  -- r6 @arms.go:123
    simp only [go_sem, reduceIte, Nat.reduceEqDiff, Nat.reduceAdd, Nat.reduceMul, Nat.reduceSub, Nat.reduceLeDiff, Nat.reduceLT, reduceCtorEq]
    refine aw_if rfl (fun h => by simp at h) (fun h => ?_)
    refine aw_skip (hK3 _ _ ?_)
    have hgz : [cTr z].getD (Int.toNat 0) [] = cTr z := rfl
    have hwz : wid 9 [cTr z] := wid_one (cTr_len z)
    refine aw_rg rfl ?_  -- r8 @arms.go:126
    simp only [go_sem, reduceIte, Nat.reduceEqDiff, Nat.reduceAdd, Nat.reduceMul, Nat.reduceSub, Nat.reduceLeDiff, Nat.reduceLT, reduceCtorEq, j2, hgz, cTr_len, cTr_take]
    refine ⟨⟨by omega, by omega, hwz⟩, cTr_sca z, ?_⟩
    rw [setM9 (by rw [cTr_len]; rfl)]
    refine ⟨⟨(z, k + 1, _), hokz, e1, by simp only; omega, sub_hset_fresh hb2 hsH, hget_hset_self j2, by rw [h3]; simp only; rw [hget_hset_ne n32]; exact j3⟩, hsz, ?_, sub_rfl⟩
    simp only [Int.natCast_add, Int.natCast_one]
    exact (by repeat' first | exact rfl | exact trivial | refine And.intro ?_ ?_)
theorem q_Of (l : List Pat) (nl : Bool) (tg : Tag) (hl : l.length ≤ 1048576) (hok : ∀ p ∈ l, OkPat p ∧ p.sz ≤ bulk) (hok2 : ∀ p ∈ l, ∀ x ∈ testsF p [], x.path.length ≤ 4294967296) : Quiet Try.prog 60 [.sl (l.map ePat) nl tg] (.agg (cTr (buildF (tot (rowsA l 0)) (rowsA l 0)))) := by
  refine Quiet.weak fun G => ?_
  refine acall_body (rs := [.cell 2 129]) Try.func60 rfl rfl Try.ntmps60 (by kernel_rfl) (Nat.le_of_ble_eq_true rfl) ?_
  refine aw_sr rfl ?_  -- r0 @arms.go:53
  simp only [go_sem, reduceIte, Nat.reduceEqDiff, Nat.reduceAdd, Nat.reduceMul, Nat.reduceSub, Nat.reduceLeDiff, Nat.reduceLT, reduceCtorEq]
  intro b2 hb2
  refine aw_box1 hb2 fun B1 hs1 h2 => ?_
  have hsB := hs1
  refine aw_sr rfl ?_  -- r1 @arms.go:54
  simp only [go_sem, reduceIte, Nat.reduceEqDiff, Nat.reduceAdd, Nat.reduceMul, Nat.reduceSub, Nat.reduceLeDiff, Nat.reduceLT, reduceCtorEq]
  refine aw_seq fun K1 hK1 => ?_
  refine aw_sr rfl ?_  -- r2 @arms.go:55
  simp only [go_sem, reduceIte, Nat.reduceEqDiff, Nat.reduceAdd, Nat.reduceMul, Nat.reduceSub, Nat.reduceLeDiff, Nat.reduceLT, reduceCtorEq]
  refine aw_range l.length (S := Tag × Heap) (fun i s => [(2, .ptr b2 0), (3, .sl ((rowsA (l.take i) 0).map eRow) (rowsA (l.take i) 0).isEmpty s.1), (6, .sl (l.map ePat) nl tg)]) (fun _ s => s.2) (fun i s => Rm G s.2 2 s.1 ∧ Sub G s.2 ∧ hget s.2 b2 = hget B1 b2) (.full, B1) (by omega) ?_ (fun _ _ h => h) ⟨Rm.start _ _ _, hsB, rfl⟩ rfl (fun _ _ => rfl) ?_ ?_ (by decide)
  · simp only [go_sem, reduceIte, Nat.reduceEqDiff, Nat.reduceAdd, Nat.reduceMul, Nat.reduceSub, Nat.reduceLeDiff, Nat.reduceLT, reduceCtorEq, Int.natCast_zero, List.take_zero, rowsA]
  · intro i ⟨t3, H⟩ hi ⟨hr, hsH, j2⟩
    simp only at hr hsH j2 ⊢
    rw [h2] at j2
    have hrt := rowsA_take hi
    have hrl := rowsA_len (l.take i) 0
    rw [List.length_take, Nat.min_eq_left (by omega)] at hrl
    have hgi : (l.map ePat).getD i [] = cPat l[i] := by rw [getD_map hi, ePat_eq]
    obtain ⟨o1, o2⟩ := hok _ (List.getElem_mem hi)
    have hq := q_tests _ l[i] [] .full (Nat.le_refl _) o1 o2 (by have : l[i].sz ≤ 1048576 := o2; simp only [List.length_nil]; omega)
    simp only [List.map_nil, List.isEmpty_nil] at hq
    generalize l[i] = p at hrt hgi hq
    refine aw_sr rfl ?_  -- r4 @arms.go:55
    simp only [go_sem, reduceIte, Nat.reduceEqDiff, Nat.reduceAdd, Nat.reduceMul, Nat.reduceSub, Nat.reduceLeDiff, Nat.reduceLT, reduceCtorEq, hgi]
    refine ⟨⟨by omega, by omega, wid_ePat _⟩, ?_⟩
    intro b5 hb5
    refine aw_box1 hb5 fun B2 hs2 h5 => ?_
    replace hr := hr.sub hs2
    replace hsH := sub_trans hsH hs2
    have k2 := hs2 _ _ j2
    refine aw_rg rfl ?_  -- r5 @arms.go:56
    simp only [go_sem, reduceIte, Nat.reduceEqDiff, Nat.reduceAdd, Nat.reduceMul, Nat.reduceSub, Nat.reduceLeDiff, Nat.reduceLT, reduceCtorEq, h5]
    refine goA_q hq ?_
    simp only [go_sem, reduceIte, Nat.reduceEqDiff, Nat.reduceAdd, Nat.reduceMul, Nat.reduceSub, Nat.reduceLeDiff, Nat.reduceLT, reduceCtorEq, h5]
    refine goP_rm hr hsH ⟨rfl, rfl, by decide, wid_eRow _, wid_one rfl, by simp [sca, scalarV], by simp only [List.length_map, List.length_cons, List.length_nil]; omega, by simp only [List.length_map, List.length_cons, List.length_nil]; omega⟩ fun t9 H9 hr9 hs9 hg9 => ?_
    simp only [go_sem, reduceIte, Nat.reduceEqDiff, Nat.reduceAdd, Nat.reduceMul, Nat.reduceSub, Nat.reduceLeDiff, Nat.reduceLT, reduceCtorEq]
    refine ⟨(t9, H9), ⟨hr9, hs9, (hg9.vars k2).trans h2.symm⟩, ?_, sub_rfl⟩
    rw [hrt]
    simp only [List.map_append, List.map_cons, List.map_nil, eRow, isE_snoc', List.isEmpty_cons, Bool.and_false]
    exact (by repeat' first | exact rfl | exact trivial | refine And.intro ?_ ?_)
  intro ⟨t3, H⟩ ⟨hr, hsH, j2⟩
  simp only at hr hsH j2 ⊢
  rw [h2] at j2
  rw [List.take_length]
  have hq := q_build (tot (rowsA l 0)) (rowsA l 0) (rowsA l 0).isEmpty t3 (Nat.le_refl _) (by rw [rowsA_len]; exact hl) (rows_okA l 0 hok hok2)
  refine hK1 _ _ ?_
  refine aw_sr rfl ?_  -- r7 @arms.go:58
  simp only [go_sem, reduceIte, Nat.reduceEqDiff, Nat.reduceAdd, Nat.reduceMul, Nat.reduceSub, Nat.reduceLeDiff, Nat.reduceLT, reduceCtorEq, j2]
  refine goA_q hq ?_
  simp only [go_sem, reduceIte, Nat.reduceEqDiff, Nat.reduceAdd, Nat.reduceMul, Nat.reduceSub, Nat.reduceLeDiff, Nat.reduceLT, reduceCtorEq, j2, cTr_len]
  refine ⟨cTr_sca _, ?_⟩
  rw [setM9 (by rw [cTr_len]; rfl)]
  refine aw_ret ⟨trivial, ?_⟩
  simp only [go_sem, reduceIte, Nat.reduceEqDiff, Nat.reduceAdd, Nat.reduceMul, Nat.reduceSub, Nat.reduceLeDiff, Nat.reduceLT, reduceCtorEq, resL, resOf, hget_hset_self j2, cTr_len, cTr_take]
  exact ⟨_, rfl, Vle.refl _, sub_hset_fresh hb2 hsH⟩
end Go.Proofs.Ytclmcpbanaojfaa

/- What the law of arms asks: is a value light, is a pattern strange, how many nodes. Conditions: sizes. -/
set_option linter.unusedSimpArgs false
set_option linter.unusedVariables false
namespace Go.Proofs.Ytclmcpbanaojfaa
open Go.Proofs.YtclmcpbanaojfaaV
open ar
set_option maxHeartbeats 4000000
set_option maxRecDepth 100000
namespace ar
theorem q_of {P : Go.Program} {g : Go.FuncId} {args : List V} {x : V} (h : QuietOn P [] g args x) : Quiet P g args x := fun G => h G fun _ _ h => by cases h
mutual
def lightF : Val → Int → Bool
  | .mk k n t ar nl, d => if d < 1 ∨ 20 < ar.length ∨ 200 < t.length then false else lightFs ar (d - 1)
def lightFs : List Val → Int → Bool
  | [], _ => true
  | v :: vs, d => lightF v d && lightFs vs d
end
theorem lights_any : ∀ (l : List Val) (d : Int), lightFs l d = !l.any fun a => !lightF a d
  | [], d => rfl
  | v :: vs, d => by rw [lightFs, lights_any vs d, List.any_cons]; cases lightF v d <;> simp
theorem light_eq (v : Val) (d : Int) : lightF v d = if d < 1 ∨ 20 < v.args.length ∨ 200 < v.text.length then false else !v.args.any fun a => !lightF a (d - 1) := by
  cases v; rw [lightF, lights_any]; rfl
mutual
def nodesF : Pat → Int → Int
  | .mk _ _ _ ar _, most => nodesFs ar most 1
def nodesFs : List Pat → Int → Int → Int
  | [], _, acc => acc
  | q :: qs, most, acc => if most < 1 then 1000 else nodesFs qs most (IntKind.i64.wrap (acc + nodesF q (IntKind.i64.wrap (most - 1))))
end
theorem nodes_eq (p : Pat) (most : Int) : nodesF p most = nodesFs p.args most 1 := by cases p; rw [nodesF]; rfl
theorem nodes_end (most : Int) : ∀ (qs : List Pat) (acc : Int), most < 1 → qs ≠ [] → nodesFs qs most acc = 1000
  | [], _, _, h => absurd rfl h
  | q :: qs, acc, h, _ => by rw [nodesFs, if_pos h]
theorem nodes_drop {qs : List Pat} {most acc : Int} {i : Nat} (h : i < qs.length) (hm : ¬ most < 1) : nodesFs (qs.drop i) most acc = nodesFs (qs.drop (i + 1)) most (IntKind.i64.wrap (acc + nodesF qs[i] (IntKind.i64.wrap (most - 1)))) := by
  rw [List.drop_eq_getElem_cons h, nodesFs, if_neg hm]
theorem strange_any : ∀ l : List Pat, strangeFs l = l.any strangeF
  | [] => rfl
  | q :: qs => by rw [strangeFs, strange_any qs, List.any_cons]
theorem strange_eq (p : Pat) : strangeF p = (decide (p.kind < 1) || decide (6 < p.kind) || (decide (p.kind = 6) && p.args.any strangeF)) := by
  cases p; rw [strangeF, strange_any]; rfl
mutual
theorem tests_plen : ∀ (p : Pat) (path : List Int), ∀ x ∈ testsF p path, x.path.length ≤ path.length + p.sz
  | .mk k n t ar nl, path => by
    intro x hx
    rw [testsF] at hx
    rw [Pat.sz]
    split at hx
    · simp at hx; subst hx; simp only; omega
    split at hx
    · simp at hx; subst hx; simp only; omega
    split at hx
    · rcases List.mem_cons.1 hx with rfl | hx
      · simp only; omega
      · have := testss_plen ar path 0 x hx; omega
    · simp at hx
theorem testss_plen : ∀ (ps : List Pat) (path : List Int) (i : Nat), ∀ x ∈ testsFs ps path i, x.path.length ≤ path.length + 1 + pszs ps
  | [], path, i => by intro x hx; simp [testsFs] at hx
  | q :: qs, path, i => by
    intro x hx
    rw [testsFs] at hx
    rw [pszs]
    rcases List.mem_append.1 hx with hx | hx
    · have := tests_plen q _ x hx
      rw [List.length_append, List.length_singleton] at this
      omega
    · have := testss_plen qs path (i + 1) x hx; omega
end
end ar
theorem q_nodesX : ∀ (n : Nat) (p : Pat) (most : Int), p.sz ≤ n → OkPat p → Quiet Try.prog 53 [.agg (cPat p), .int .i64 most] (.int .i64 (nodesF p most)) := by
  intro n
  induction n with
  | zero => intro p most h; have := p.sz_eq; omega
  | succ n ih =>
  intro p most hn hp
  have hpl : p.args.length ≤ 1048576 := hp.len
  have hF := nodes_eq p most
  refine Quiet.weak fun G => ?_
  refine acall_body (rs := [.tmp 4]) Try.func53 rfl rfl Try.ntmps53 (by kernel_rfl) (Nat.le_of_ble_eq_true rfl) ?_
  refine aw_sr rfl ?_  -- r0 @low.go:44
  simp only [go_sem, reduceIte, Nat.reduceEqDiff, Nat.reduceAdd, Nat.reduceMul, Nat.reduceSub, Nat.reduceLeDiff, Nat.reduceLT, reduceCtorEq]
  intro b2 hb2
  refine aw_box1 hb2 fun B1 hs1 h2 => ?_
  have hsB := hs1
  refine aw_sr rfl ?_  -- r1 @low.go:45
  simp only [go_sem, reduceIte, Nat.reduceEqDiff, Nat.reduceAdd, Nat.reduceMul, Nat.reduceSub, Nat.reduceLeDiff, Nat.reduceLT, reduceCtorEq]
  refine aw_seq fun K2 hK2 => ?_
  refine aw_sr rfl ?_  -- r2 @low.go:46
  simp only [go_sem, reduceIte, Nat.reduceEqDiff, Nat.reduceAdd, Nat.reduceMul, Nat.reduceSub, Nat.reduceLeDiff, Nat.reduceLT, reduceCtorEq, h2]
  refine aw_range p.args.length (S := Int) (fun i st => [(1, .int .i64 most), (5, .int .i64 st), (9, .sl (p.args.map ePat) p.nl .no)]) (fun _ _ => B1) (fun i st => nodesF p most = nodesFs (p.args.drop i) most st) 1 (by omega) ?_ (fun _ _ h => h) hF rfl (fun _ _ => rfl) ?_ ?_ (by decide)
  · simp only [go_sem, reduceIte, Nat.reduceEqDiff, Nat.reduceAdd, Nat.reduceMul, Nat.reduceSub, Nat.reduceLeDiff, Nat.reduceLT, reduceCtorEq, Int.natCast_zero]
  · intro i m0 hi he
    have ham : p.args[i] ∈ p.args := List.getElem_mem hi
    refine aw_sr rfl ?_  -- r4 @low.go:46
    simp only [go_sem, reduceIte, Nat.reduceEqDiff, Nat.reduceAdd, Nat.reduceMul, Nat.reduceSub, Nat.reduceLeDiff, Nat.reduceLT, reduceCtorEq, getD_map hi, ePat_eq]
    refine ⟨⟨by omega, by omega, wid_ePat _⟩, ?_⟩
    intro b7 hb7
    refine aw_box1 hb7 fun B2 hs2 h7 => ?_
    refine aw_seq fun K3 hK3 => ?_
    refine aw_sr rfl ?_  -- r5 @low.go:47
    simp only [go_sem, reduceIte, Nat.reduceEqDiff, Nat.reduceAdd, Nat.reduceMul, Nat.reduceSub, Nat.reduceLeDiff, Nat.reduceLT, reduceCtorEq]
    refine aw_if rfl (fun h => ?_) (fun h => ?_)
    · have hm : most < 1 := by simpa using h
      refine aw_sr rfl ?_  -- r6 @low.go:48
      simp only [go_sem, reduceIte, Nat.reduceEqDiff, Nat.reduceAdd, Nat.reduceMul, Nat.reduceSub, Nat.reduceLeDiff, Nat.reduceLT, reduceCtorEq]
      refine aw_ret ⟨trivial, _, rfl, ?_, sub_trans hsB hs2⟩
      rw [he, nodes_end most _ _ hm (by intro e; have := congrArg List.length e; rw [List.length_drop] at this; simp at this; omega)]
      exact Vle.refl _
    have hm : ¬ most < 1 := by simpa using h
    refine aw_skip (hK3 _ _ ?_)
    refine aw_rg rfl ?_  -- r7 @low.go:50
    simp only [go_sem, reduceIte, Nat.reduceEqDiff, Nat.reduceAdd, Nat.reduceMul, Nat.reduceSub, Nat.reduceLeDiff, Nat.reduceLT, reduceCtorEq, h7]
    refine goA_q (ih p.args[i] _ (by have := Pat.sz_args ham; omega) (hp.arg ham)) ?_
    simp only [go_sem, reduceIte, Nat.reduceEqDiff, Nat.reduceAdd, Nat.reduceMul, Nat.reduceSub, Nat.reduceLeDiff, Nat.reduceLT, reduceCtorEq]
    refine ⟨IntKind.i64.wrap (m0 + nodesF p.args[i] (IntKind.i64.wrap (most - 1))), he.trans (nodes_drop hi hm), ?_, hs2⟩
    exact (by repeat' first | exact rfl | exact trivial | refine And.intro ?_ ?_)
  intro m0 he
  refine hK2 _ _ ?_
  refine aw_sr rfl ?_  -- r9 @low.go:52
  simp only [go_sem, reduceIte, Nat.reduceEqDiff, Nat.reduceAdd, Nat.reduceMul, Nat.reduceSub, Nat.reduceLeDiff, Nat.reduceLT, reduceCtorEq]
  refine aw_ret ⟨trivial, _, rfl, ?_, hsB⟩
  rw [he, List.drop_length, nodesFs]
  exact Vle.refl _
theorem q_light : ∀ (n : Nat) (v : Val) (d : Int), v.sz ≤ n → OkVal v → d ≤ 1000 → -1000 ≤ d → Quiet Try.prog 50 [.agg (cV v), .int .i64 d] (.bool (lightF v d)) := by
  intro n
  induction n with
  | zero => intro v d h; have := v.sz_eq; omega
  | succ n ih =>
  intro v d hn hv hd1 hd2
  have hvl : v.args.length ≤ 1048576 := hv.len
  have hF := light_eq v d
  refine Quiet.weak fun G => ?_
  refine acall_body (rs := [.tmp 4]) Try.func50 rfl rfl Try.ntmps50 (by kernel_rfl) (Nat.le_of_ble_eq_true rfl) ?_
  refine aw_sr rfl ?_  -- r0 @low.go:56
  simp only [go_sem, reduceIte, Nat.reduceEqDiff, Nat.reduceAdd, Nat.reduceMul, Nat.reduceSub, Nat.reduceLeDiff, Nat.reduceLT, reduceCtorEq]
  intro b2 hb2
  intro b3 hb3
  refine aw_box2 hb2 hb3 fun B1 hs1 h2 h3 _ _ => ?_
  have hsB := hs1
  refine aw_seq fun K1 hK1 => ?_
  refine aw_sr rfl ?_  -- r1 @low.go:57
  simp only [go_sem, reduceIte, Nat.reduceEqDiff, Nat.reduceAdd, Nat.reduceMul, Nat.reduceSub, Nat.reduceLeDiff, Nat.reduceLT, reduceCtorEq, h2, h3]
  refine aw_if rfl (fun h => ?_) (fun h => ?_)
  · refine aw_sr rfl ?_  -- r2 @low.go:58
    simp only [go_sem, reduceIte, Nat.reduceEqDiff, Nat.reduceAdd, Nat.reduceMul, Nat.reduceSub, Nat.reduceLeDiff, Nat.reduceLT, reduceCtorEq]
    refine aw_ret ⟨trivial, _, rfl, ?_, hsB⟩
    rw [hF, if_pos (by simp only [Bool.or_eq_true, decide_eq_true_eq] at h; omega)]
    exact Vle.refl _
  have hno : ¬ (d < 1 ∨ 20 < v.args.length ∨ 200 < v.text.length) := by
    simp only [Bool.or_eq_false_iff, decide_eq_false_iff_not] at h; omega
  rw [if_neg hno] at hF
  have hq := q_ContainsVal [(b3, .vars [.int .i64 d])] 105 [] [.ptr b3 0] (fun a => !lightF a (d - 1)) v.args v.nl .no (by omega) (fun a ha => by
    refine QuietOn.weak fun G hG => ?_
    have hg : hget G b3 = some (.vars [.int .i64 d]) := hG _ _ (hget_self _ _ _)
    have hw : IntKind.i64.wrap (d - 1) = d - 1 := wrap64 (by omega) (by omega)
    have hq := ih a (d - 1) (by have := Val.sz_args ha; omega) (hv.arg ha) (by omega) (by omega)
    refine acall_body (rs := [.tmp 3]) Try.func105 rfl rfl Try.ntmps105 (by kernel_rfl) (Nat.le_of_ble_eq_true rfl) ?_
    refine aw_sr rfl ?_  -- r0 @low.go:60
    simp only [go_sem, reduceIte, Nat.reduceEqDiff, Nat.reduceAdd, Nat.reduceMul, Nat.reduceSub, Nat.reduceLeDiff, Nat.reduceLT, reduceCtorEq, aV]
    intro b2 hb
    have hne : ¬ b2 = b3 := by intro e; subst e; rw [hg] at hb; cases hb
    refine aw_sr rfl ?_  -- r1 @low.go:60
    simp only [go_sem, reduceIte, Nat.reduceEqDiff, Nat.reduceAdd, Nat.reduceMul, Nat.reduceSub, Nat.reduceLeDiff, Nat.reduceLT, reduceCtorEq, hne, hg, hw]
    refine goA_q hq ?_
    simp only [go_sem, reduceIte, Nat.reduceEqDiff, Nat.reduceAdd, Nat.reduceMul, Nat.reduceSub, Nat.reduceLeDiff, Nat.reduceLT, reduceCtorEq, hne, hg]
    exact aw_ret ⟨trivial, _, rfl, Vle.refl _, hsub_cons hb⟩)
  refine aw_skip (hK1 _ _ ?_)
  refine aw_sr rfl ?_  -- r3 @low.go:60
  simp only [go_sem, reduceIte, Nat.reduceEqDiff, Nat.reduceAdd, Nat.reduceMul, Nat.reduceSub, Nat.reduceLeDiff, Nat.reduceLT, reduceCtorEq, h2, h3]
  refine goA_on hq (sub_one h3) ?_
  simp only [go_sem, reduceIte, Nat.reduceEqDiff, Nat.reduceAdd, Nat.reduceMul, Nat.reduceSub, Nat.reduceLeDiff, Nat.reduceLT, reduceCtorEq, h2, h3]
  refine aw_ret ⟨trivial, _, rfl, ?_, hsB⟩
  rw [hF]
  exact Vle.refl _
theorem q_same1 : ∀ (n : Nat) (a b : Val), a.sz ≤ n → OkVal a → Quiet Try.prog 58 [.agg (cV a), .agg (cV b)] (.bool (sameV a b)) := by
  intro n
  induction n with
  | zero => intro a b h; have := a.sz_eq; omega
  | succ n ih =>
    intro a b h ho
    have hq : Quiet Try.prog 57 [.sl (a.args.map eVal) a.nl .no, .sl (b.args.map eVal) b.nl .no, .func (.func 58) [] []] (.bool (eqF sameV a.args b.args)) :=
      q_EqualFuncV _ [] [] sameV a.args b.args _ _ _ _ (le_bulk ho.len) fun x hx y hy => ih x y (by have := Val.sz_args hx; omega) (ho.arg hx)
    refine Quiet.weak fun G => ?_
    refine acall_body (rs := [.tmp 4]) Try.func58 rfl rfl Try.ntmps58 (by kernel_rfl) (Nat.le_of_ble_eq_true rfl) ?_
    refine aw_sr rfl ?_
    simp only [go_sem, reduceIte, Nat.reduceEqDiff, Nat.reduceAdd, Nat.reduceMul, Nat.reduceSub, Nat.reduceLeDiff, Nat.reduceLT, reduceCtorEq]
    intro b1 hb b2 hb2
    have hne : ¬ b2 = b1 := by intro e; subst e; rw [hget_cons, if_pos rfl] at hb2; cases hb2
    refine aw_sr rfl ?_
    simp only [go_sem, reduceIte, Nat.reduceEqDiff, Nat.reduceAdd, Nat.reduceMul, Nat.reduceSub, Nat.reduceLeDiff, Nat.reduceLT, reduceCtorEq, hget_cons, hne]
    refine goH_q (fun hg => hq) ?_
    simp only [go_sem, reduceIte, Nat.reduceEqDiff, Nat.reduceAdd, Nat.reduceMul, Nat.reduceSub, Nat.reduceLeDiff, Nat.reduceLT, reduceCtorEq]
    refine aw_ret ⟨trivial, _, rfl, ?_, fun b' o' h => hsub_cons hb2 _ _ (hsub_cons hb _ _ h)⟩
    rw [sameV_eq]
    exact Vle.refl _
theorem q_sames1 (xs ys : List Val) (n1 n2 : Bool) (t1 t2 : Tag) (hx : (xs.length : Int) ≤ 9223372036854775807) (ho : ∀ a ∈ xs, OkVal a) :
    Quiet Try.prog 57 [.sl (xs.map eVal) n1 t1, .sl (ys.map eVal) n2 t2, .func (.func 58) [] []] (.bool (eqF sameV xs ys)) :=
  q_EqualFuncV _ [] [] sameV xs ys _ _ _ _ hx fun x hx y hy => q_same1 _ x y (Nat.le_refl _) (ho x hx)
theorem q_strange : ∀ (n : Nat) (p : Pat), p.sz ≤ n → OkPat p → Quiet Try.prog 61 [.agg (cPat p)] (.bool (strangeF p)) := by
  intro n
  induction n with
  | zero => intro p h; have := p.sz_eq; omega
  | succ n ih =>
  intro p hn hp
  have hpl : p.args.length ≤ 1048576 := hp.len
  have hq : Quiet Try.prog 51 [.sl (p.args.map ePat) p.nl .no, .func (.func 61) [] []] (.bool (p.args.any strangeF)) :=
    q_of (q_ContainsPat [] 61 [] [] strangeF p.args p.nl .no (by omega) fun a ha => (ih a (by have := Pat.sz_args ha; omega) (hp.arg ha)).on)
  refine Quiet.weak fun G => ?_
  refine acall_body (rs := [.tmp 2]) Try.func61 rfl rfl Try.ntmps61 (by kernel_rfl) (Nat.le_of_ble_eq_true rfl) ?_
  refine aw_sr rfl ?_  -- r0 @low.go:127
  simp only [go_sem, reduceIte, Nat.reduceEqDiff, Nat.reduceAdd, Nat.reduceMul, Nat.reduceSub, Nat.reduceLeDiff, Nat.reduceLT, reduceCtorEq]
  intro b1 hb1
  refine aw_box1 hb1 fun B1 hs1 h1 => ?_
  refine aw_sr rfl ?_  -- r1 @low.go:128
  simp only [go_sem, reduceIte, Nat.reduceEqDiff, Nat.reduceAdd, Nat.reduceMul, Nat.reduceSub, Nat.reduceLeDiff, Nat.reduceLT, reduceCtorEq, h1]
  refine goH_q (fun hg => hq) ?_
  simp only [go_sem, reduceIte, Nat.reduceEqDiff, Nat.reduceAdd, Nat.reduceMul, Nat.reduceSub, Nat.reduceLeDiff, Nat.reduceLT, reduceCtorEq, h1]
  refine aw_ret ⟨trivial, _, rfl, ?_, hs1⟩
  rw [strange_eq]
  cases decide (p.kind < 1) <;> cases decide (6 < p.kind) <;> exact Vle.refl _
theorem q_AT1 (p : Pat) (hp : OkPat p) : Quiet Try.prog 52 [.agg (cPat p)] (.bool (decide (30 < nodesF p 50))) := by
  have hq := q_nodesX _ p 50 (Nat.le_refl _) hp
  refine Quiet.weak fun G => ?_
  refine acall_body (rs := [.tmp 2]) Try.func52 rfl rfl Try.ntmps52 (by kernel_rfl) (Nat.le_of_ble_eq_true rfl) ?_
  refine aw_sr rfl ?_  -- r0 @low.go:104
  simp only [go_sem, reduceIte, Nat.reduceEqDiff, Nat.reduceAdd, Nat.reduceMul, Nat.reduceSub, Nat.reduceLeDiff, Nat.reduceLT, reduceCtorEq]
  intro b1 hb1
  refine aw_box1 hb1 fun B1 hs1 h1 => ?_
  refine aw_sr rfl ?_  -- r1 @low.go:104
  simp only [go_sem, reduceIte, Nat.reduceEqDiff, Nat.reduceAdd, Nat.reduceMul, Nat.reduceSub, Nat.reduceLeDiff, Nat.reduceLT, reduceCtorEq, h1]
  refine goA_q hq ?_
  simp only [go_sem, reduceIte, Nat.reduceEqDiff, Nat.reduceAdd, Nat.reduceMul, Nat.reduceSub, Nat.reduceLeDiff, Nat.reduceLT, reduceCtorEq, h1]
  exact aw_ret ⟨trivial, _, rfl, Vle.refl _, hs1⟩
end Go.Proofs.Ytclmcpbanaojfaa

/- What the law of arms says, as data. No conditions. -/
set_option linter.unusedSimpArgs false
set_option linter.unusedVariables false
namespace Go.Proofs.Ytclmcpbanaojfaa
open Go.Proofs.YtclmcpbanaojfaaV
open ar
namespace ar
def wantF (v : Val) : List Pat → Nat → Int
  | [], _ => -1
  | p :: ps, i => if (fitsF p v).isSome = true then (i : Int) else wantF v ps (i + 1)
theorem want_idx (v : Val) : ∀ (l : List Pat) (i : Nat), wantF v l i = match l.findIdx? fun p => (fitsF p v).isSome with | some j => ((i + j : Nat) : Int) | none => -1
  | [], i => rfl
  | p :: ps, i => by
    rw [wantF, List.findIdx?_cons]
    cases h : (fitsF p v).isSome with
    | true => simp
    | false =>
      simp only [Bool.false_eq_true, if_false]
      rw [want_idx v ps (i + 1)]
      cases List.findIdx? (fun p => (fitsF p v).isSome) ps with
      | none => rfl
      | some j => simp only [Option.map_some]; congr 1; omega
theorem want_first (v : Val) (l : List Pat) : wantF v l 0 = firstF v l := by
  rw [want_idx, firstF]
  cases List.findIdx? (fun p => (fitsF p v).isSome) l with
  | none => rfl
  | some j => simp [firstF.idx]
theorem want_drop {v : Val} {l : List Pat} {k : Nat} (h : k < l.length) : wantF v (l.drop k) k = if (fitsF l[k] v).isSome = true then (k : Int) else wantF v (l.drop (k + 1)) (k + 1) := by
  rw [List.drop_eq_getElem_cons h, wantF]
theorem bound_drop {v : Val} {l : List Pat} {k : Nat} (h : k < l.length) : boundF v (l.drop k) = match fitsF l[k] v with | some b => b | none => boundF v (l.drop (k + 1)) := by
  rw [List.drop_eq_getElem_cons h, boundF, List.find?_cons]
  cases hf : fitsF l[k] v with
  | some b => simp [hf]
  | none => simp only [Option.isSome_none]; rfl
theorem quest_drop {l : List Pat} {k : Nat} (h : k < l.length) : questFs (l.drop k) = questF l[k] + questFs (l.drop (k + 1)) := by
  rw [List.drop_eq_getElem_cons h, questFs]
mutual
theorem fits_ok : ∀ (p : Pat) (v : Val) (b : List Val), OkVal v → fitsF p v = some b → ∀ x ∈ b, OkVal x
  | .mk k n t ar nl, v, b, hv, h => by
    rw [fitsF] at h
    intro x hx
    split at h
    · cases h; simp at hx
    split at h
    · cases h; simp at hx; subst hx; exact hv
    split at h
    · split at h <;> cases h; simp at hx
    split at h
    · split at h <;> cases h; simp at hx
    split at h
    · split at h <;> cases h; simp at hx
    split at h
    · split at h
      · exact fitss_ok ar v.args b (fun a ha => hv.arg ha) h x hx
      · cases h
    · cases h
theorem fitss_ok : ∀ (ps : List Pat) (vs : List Val) (b : List Val), (∀ a ∈ vs, OkVal a) → fitsFs ps vs = some b → ∀ x ∈ b, OkVal x
  | [], _, b, _, h => by rw [fitsFs] at h; cases h; simp
  | q :: qs, [], b, _, h => by rw [fitsFs] at h; cases h
  | q :: qs, v :: vs, b, hv, h => by
    rw [fitsFs] at h
    split at h
    · rename_i a ha
      split at h
      · rename_i c hc
        cases h
        intro x hx
        rcases List.mem_append.1 hx with hx | hx
        · exact fits_ok q v a (hv v (by simp)) ha x hx
        · exact fitss_ok qs vs c (fun y hy => hv y (by simp [hy])) hc x hx
      · cases h
    · cases h
end
theorem bound_ok {v : Val} (hv : OkVal v) (l : List Pat) : (∀ x ∈ boundF v l, OkVal x) ∧ (boundF v l).length ≤ pszs l := by
  unfold boundF
  cases hf : l.find? (fun p => (fitsF p v).isSome) with
  | none => exact ⟨by simp, by simp⟩
  | some p =>
    simp only
    have hm := List.mem_of_find?_eq_some hf
    cases hb : fitsF p v with
    | none => exact ⟨by simp, by simp⟩
    | some b =>
      simp only [Option.getD_some]
      refine ⟨fits_ok p v b hv hb, ?_⟩
      have := fits_len p v b hb
      have := pszs_mem hm
      omega
theorem first_rows (v : Val) : ∀ (l : List Pat) (i : Nat), (∀ p ∈ l, strangeF p = false) → firstR v (rowsA l i) = wantF v l i
  | [], _, _ => rfl
  | p :: ps, i, h => by
    rw [rowsA, first_cons, wantF]
    simp only
    rw [tests_fit v p [] v (h p (by simp)) rfl, first_rows v ps (i + 1) fun q hq => h q (by simp [hq])]
theorem rows_nrm : ∀ (l : List Pat) (i : Nat), ∀ r ∈ rowsA l i, ∀ x ∈ r.2.1, Nrm x
  | [], _ => by intro r hr; simp [rowsA] at hr
  | p :: ps, i => by
    intro r hr
    rw [rowsA] at hr
    rcases List.mem_cons.1 hr with rfl | hr
    · exact tests_nrm p []
    · exact rows_nrm ps (i + 1) r hr
theorem tot_rows : ∀ (l : List Pat) (i : Nat), tot (rowsA l i) = questFs l
  | [], _ => rfl
  | p :: ps, i => by rw [rowsA, tot_cons, tot_rows ps, questFs, tests_len]
theorem eqF_self (l : List Val) : eqF sameV l l = true := by rw [← sameVs_eq, sameVs_refl]
end ar
end Go.Proofs.Ytclmcpbanaojfaa

/- The law of arms. Conditions: what the law's own arguments are. -/
set_option linter.unusedSimpArgs false
set_option linter.unusedVariables false
namespace Go.Proofs.Ytclmcpbanaojfaa.armsTells
open Go.Proofs.YtclmcpbanaojfaaV
open Go.Proofs.Ytclmcpbanaojfaa
open ar
set_option maxHeartbeats 4000000
set_option maxRecDepth 100000
theorem law (x0 : D107) (v : Val) (q0 : o107 x0) (q1 : o110 v) : Quiet Try.prog 6 [.sl (x0.1.map e114) x0.2 .no, .agg (e110 v)] (.bool true) := by
  obtain ⟨l, nl⟩ := x0
  obtain ⟨hnl, hll, hol⟩ := q0
  obtain ⟨hv, hvs⟩ := q1
  simp only at hnl hll hol ⊢
  rw [show e110 v = cV v from eC v]
  have hll' : l.length ≤ 1048576 := hll
  have hok : ∀ p ∈ l, OkPat p ∧ p.sz ≤ bulk := fun p hp => hol p hp
  have hok2 : ∀ p ∈ l, ∀ x ∈ testsF p [], x.path.length ≤ 4294967296 := fun p hp x hx => by
    have := tests_plen p [] x hx
    have h2 : p.sz ≤ 1048576 := (hol p hp).2
    simp only [List.length_nil] at this
    omega
  have hlight := q_light _ v 8 (Nat.le_refl _) hv (by omega) (by omega)
  have hcn : Quiet Try.prog 51 [.sl (l.map ePat) nl .no, .func (.func 52) [] []] (.bool (l.any fun p => decide (30 < nodesF p 50))) :=
    q_of (q_ContainsPat [] 52 [] [] (fun p => decide (30 < nodesF p 50)) l nl .no (by omega) fun a ha => (q_AT1 a (hol a ha).1).on)
  have hcs : Quiet Try.prog 51 [.sl (l.map ePat) nl .no, .func (.func 61) [] []] (.bool (l.any strangeF)) :=
    q_of (q_ContainsPat [] 61 [] [] strangeF l nl .no (by omega) fun a ha => (q_strange _ a (Nat.le_refl _) (hol a ha).1).on)
  refine Quiet.weak fun G => ?_
  refine acall_body (rs := [.tmp 4]) Try.func6 rfl rfl Try.ntmps6 (by kernel_rfl) (Nat.le_of_ble_eq_true rfl) ?_
  refine aw_sr rfl ?_  -- r0 @low.go:103
  simp only [go_sem, reduceIte, Nat.reduceEqDiff, Nat.reduceAdd, Nat.reduceMul, Nat.reduceSub, Nat.reduceLeDiff, Nat.reduceLT, reduceCtorEq]
  intro b3 hb3
  refine aw_box1 hb3 fun B1 hs1 h3 => ?_
  have hsB := hs1
  refine aw_seq fun K1 hK1 => ?_
  refine aw_sr rfl ?_  -- r1 @low.go:104
  simp only [go_sem, reduceIte, Nat.reduceEqDiff, Nat.reduceAdd, Nat.reduceMul, Nat.reduceSub, Nat.reduceLeDiff, Nat.reduceLT, reduceCtorEq, h3]
  refine goH_q (fun hg => hlight) ?_
  simp only [go_sem, reduceIte, Nat.reduceEqDiff, Nat.reduceAdd, Nat.reduceMul, Nat.reduceSub, Nat.reduceLeDiff, Nat.reduceLT, reduceCtorEq, h3]
  refine goH_q (fun hg => hcn) ?_
  simp only [go_sem, reduceIte, Nat.reduceEqDiff, Nat.reduceAdd, Nat.reduceMul, Nat.reduceSub, Nat.reduceLeDiff, Nat.reduceLT, reduceCtorEq, h3]
  refine aw_if rfl (fun h => ?_) (fun h => ?_)
  · refine aw_sr rfl ?_  -- r2 @low.go:105
    simp only [go_sem, reduceIte, Nat.reduceEqDiff, Nat.reduceAdd, Nat.reduceMul, Nat.reduceSub, Nat.reduceLeDiff, Nat.reduceLT, reduceCtorEq]
    exact aw_ret ⟨trivial, _, rfl, Vle.refl _, hsB⟩
  have hl6 : l.length ≤ 6 := by
    simp only [Bool.or_eq_false_iff, decide_eq_false_iff_not] at h
    omega
  clear h
  have hpz : ∀ k, pszs (l.drop k) ≤ 6291456 := by
    have hp : ∀ m : List Pat, (∀ p ∈ m, p.sz ≤ 1048576) → pszs m ≤ m.length * 1048576 := by
      intro m
      induction m with
      | nil => intro _; simp [pszs]
      | cons a m ih => intro hm; rw [pszs, List.length_cons]; have h1 := hm a (by simp); have h2 := ih fun p hp => hm p (by simp [hp]); omega
    intro k
    have := hp (l.drop k) fun p hp => (hol p (List.mem_of_mem_drop hp)).2
    rw [List.length_drop] at this
    omega
  refine aw_skip (hK1 _ _ ?_)
  refine aw_sr rfl ?_  -- r3 @low.go:107
  simp only [go_sem, reduceIte, Nat.reduceEqDiff, Nat.reduceAdd, Nat.reduceMul, Nat.reduceSub, Nat.reduceLeDiff, Nat.reduceLT, reduceCtorEq, h3]
  refine goA_q (q_First l nl .no v hll' hok) ?_
  simp only [go_sem, reduceIte, Nat.reduceEqDiff, Nat.reduceAdd, Nat.reduceMul, Nat.reduceSub, Nat.reduceLeDiff, Nat.reduceLT, reduceCtorEq, h3]
  refine aw_sr rfl ?_  -- r4 @low.go:108
  simp only [go_sem, reduceIte, Nat.reduceEqDiff, Nat.reduceAdd, Nat.reduceMul, Nat.reduceSub, Nat.reduceLeDiff, Nat.reduceLT, reduceCtorEq]
  refine aw_sr rfl ?_  -- r5 @low.go:109
  simp only [go_sem, reduceIte, Nat.reduceEqDiff, Nat.reduceAdd, Nat.reduceMul, Nat.reduceSub, Nat.reduceLeDiff, Nat.reduceLT, reduceCtorEq]
  refine aw_seq fun K2 hK2 => ?_
  refine aw_sr rfl ?_  -- r6 @low.go:110
  have hw0 : IntKind.i64.wrap ((l.length : Int) - 1) = (l.length : Int) - 1 := wrap64 (by omega) (by omega)
  simp only [go_sem, reduceIte, Nat.reduceEqDiff, Nat.reduceAdd, Nat.reduceMul, Nat.reduceSub, Nat.reduceLeDiff, Nat.reduceLT, reduceCtorEq, hw0]
  refine aw_block ?_  -- 0
  refine aw_lph (S := {s : Nat × Tag // s.1 ≤ l.length}) (fun s => [(0, .sl (l.map ePat) nl .no), (3, .ptr b3 0), (5, .int .i64 (firstF v l)), (6, .sl ((boundF v l).map eVal) (boundF v l).isEmpty .no), (7, .int .i64 (wantF v (l.drop s.1.1) s.1.1)), (8, .int .i64 (questFs (l.drop s.1.1))), (9, .sl ((boundF v (l.drop s.1.1)).map eVal) (boundF v (l.drop s.1.1)).isEmpty s.1.2), (10, .int .i64 ((s.1.1 : Int) - 1))]) (fun s => B1) (fun s => s.1.1)
    ⟨(l.length, .full), Nat.le_refl _⟩ ?_ (fun _ _ h => h) ?_
  · simp only [List.drop_length]
    simp only [go_sem, reduceIte, Nat.reduceEqDiff, Nat.reduceAdd, Nat.reduceMul, Nat.reduceSub, Nat.reduceLeDiff, Nat.reduceLT, reduceCtorEq, wantF, questFs, boundF, List.find?_nil]
    rfl
  intro ⟨⟨k, t9⟩, hk⟩
  simp only at hk ⊢
  refine aw_seq fun K3 hK3 => ?_
  refine aw_sr rfl ?_  -- r7 @low.go:110
  simp only [go_sem, reduceIte, Nat.reduceEqDiff, Nat.reduceAdd, Nat.reduceMul, Nat.reduceSub, Nat.reduceLeDiff, Nat.reduceLT, reduceCtorEq]
  refine aw_if rfl (fun h => ?_) (fun h => ?_)
  · have hk1 : 1 ≤ k := by have : 0 ≤ (k : Int) - 1 := by simpa using h
                           omega
    obtain ⟨j, rfl⟩ : ∃ j, k = j + 1 := ⟨k - 1, by omega⟩
    have hj : j < l.length := by omega
    have hjj : ((j + 1 : Nat) : Int) - 1 = (j : Int) := by omega
    rw [hjj]
    have hmem : l[j] ∈ l := List.getElem_mem hj
    obtain ⟨o1, o2⟩ := hol _ hmem
    have hQ := q_Questions _ l[j] (Nat.le_refl _) o1 o2
    have hF := q_Fits _ l[j] v (Nat.le_refl _) o1 o2
    have w1 := want_drop (v := v) hj
    have w2 := bound_drop (v := v) hj
    have w3 := quest_drop hj
    have hgi : (l.map ePat).getD j [] = cPat l[j] := by rw [getD_map hj, ePat_eq]
    have hb1 := quests_le (l.drop j)
    have hb2 := hpz j
    refine aw_skip (hK3 _ _ ?_)
    generalize l[j] = p at hQ hF w1 w2 w3 hgi
    have hw1 : IntKind.i64.wrap ((questFs (l.drop (j + 1)) : Int) + (questF p : Int)) = (questFs (l.drop j) : Int) := by
      rw [wrap64 (by omega) (by omega), w3]; omega
    have hw2 : IntKind.i64.wrap ((j : Int) - 1) = (j : Int) - 1 := wrap64 (by omega) (by omega)
    refine aw_mid (fun f' G' => (∃ t, FSub [(0, .sl (l.map ePat) nl .no), (3, .ptr b3 0), (5, .int .i64 (firstF v l)), (6, .sl ((boundF v l).map eVal) (boundF v l).isEmpty .no), (7, .int .i64 (wantF v (l.drop j) j)), (8, .int .i64 (questFs (l.drop j))), (9, .sl ((boundF v (l.drop j)).map eVal) (boundF v (l.drop j)).isEmpty t), (10, .int .i64 (j : Int))] f') ∧ G' = B1) ?_ ?_
    · refine aw_block ?_  -- 1
      refine aw_sr rfl ?_  -- r9 @low.go:111
      simp only [go_sem, reduceIte, Nat.reduceEqDiff, Nat.reduceAdd, Nat.reduceMul, Nat.reduceSub, Nat.reduceLeDiff, Nat.reduceLT, reduceCtorEq, hgi]
      refine ⟨⟨by omega, by omega, wid_ePat _⟩, ?_⟩
      refine goA_q hQ ?_
      simp only [go_sem, reduceIte, Nat.reduceEqDiff, Nat.reduceAdd, Nat.reduceMul, Nat.reduceSub, Nat.reduceLeDiff, Nat.reduceLT, reduceCtorEq, hgi, hw1]
      refine aw_srd [(0,true),(1,true),(2,true),(3,true),(4,true),(5,true),(6,true),(7,true),(8,true),(9,true),(10,true)] mixed rfl (by kernel_rfl) ?_  -- r10 @low.go:112
      simp only [go_sem, reduceIte, Nat.reduceEqDiff, Nat.reduceAdd, Nat.reduceMul, Nat.reduceSub, Nat.reduceLeDiff, Nat.reduceLT, reduceCtorEq, h3, hgi]
      refine ⟨⟨by omega, by omega, wid_ePat _⟩, ?_⟩
      refine goQ_by hF ?_
      cases hf : fitsF p v with
      | none =>
        rw [hf] at w1 w2
        simp only [Option.isSome_none, Bool.false_eq_true, if_false] at w1 w2
        rw [w1, w2]
        simp only [go_sem, reduceIte, Nat.reduceEqDiff, Nat.reduceAdd, Nat.reduceMul, Nat.reduceSub, Nat.reduceLeDiff, Nat.reduceLT, reduceCtorEq, bndV]
        refine aw_sr rfl ?_  -- r11 @low.go:112
        simp only [go_sem, reduceIte, Nat.reduceEqDiff, Nat.reduceAdd, Nat.reduceMul, Nat.reduceSub, Nat.reduceLeDiff, Nat.reduceLT, reduceCtorEq]
        refine aw_if rfl (fun h => by simp at h) (fun h => ?_)
        exact aw_skip ⟨⟨t9, (by repeat' first | exact rfl | exact trivial | refine And.intro ?_ ?_)⟩, rfl⟩
      | some b =>
        rw [hf] at w1 w2
        simp only [Option.isSome_some, if_true] at w1 w2
        rw [w1, w2]
        simp only [go_sem, reduceIte, Nat.reduceEqDiff, Nat.reduceAdd, Nat.reduceMul, Nat.reduceSub, Nat.reduceLeDiff, Nat.reduceLT, reduceCtorEq, bndV]
        refine aw_sr rfl ?_  -- r11 @low.go:112
        simp only [go_sem, reduceIte, Nat.reduceEqDiff, Nat.reduceAdd, Nat.reduceMul, Nat.reduceSub, Nat.reduceLeDiff, Nat.reduceLT, reduceCtorEq]
        refine aw_if rfl (fun h => ?_) (fun h => by simp at h)
        refine aw_rg rfl ?_  -- r12 @low.go:113
        simp only [go_sem, reduceIte, Nat.reduceEqDiff, Nat.reduceAdd, Nat.reduceMul, Nat.reduceSub, Nat.reduceLeDiff, Nat.reduceLT, reduceCtorEq]
        exact ⟨⟨.no, (by repeat' first | exact rfl | exact trivial | refine And.intro ?_ ?_)⟩, rfl⟩
    intro f' G' ⟨⟨t, hf⟩, hg⟩
    rw [hg]
    refine AW.of_fsub hf ?_
    refine aw_rg rfl ?_  -- r8 @low.go:110
    simp only [go_sem, reduceIte, Nat.reduceEqDiff, Nat.reduceAdd, Nat.reduceMul, Nat.reduceSub, Nat.reduceLeDiff, Nat.reduceLT, reduceCtorEq, hw2]
    refine ⟨⟨(j, t), by omega⟩, by simp, ?_, sub_rfl⟩
    exact (by repeat' first | exact rfl | exact trivial | refine And.intro ?_ ?_)
  · have hk0 : k = 0 := by have : ¬ 0 ≤ (k : Int) - 1 := by simpa using h
                           omega
    subst hk0
    simp only [List.drop_zero]
    rw [want_first]
    refine aw_exit ?_  -- 0
    refine hK2 _ _ ?_
    refine aw_seq fun K4 hK4 => ?_
    refine aw_sr rfl ?_  -- r13 @low.go:116
    simp only [go_sem, reduceIte, Nat.reduceEqDiff, Nat.reduceAdd, Nat.reduceMul, Nat.reduceSub, Nat.reduceLeDiff, Nat.reduceLT, reduceCtorEq]
    refine aw_if rfl (fun h => ?_) (fun h => ?_)
    · refine aw_sr rfl ?_  -- r14 @low.go:117
      simp only [go_sem, reduceIte, Nat.reduceEqDiff, Nat.reduceAdd, Nat.reduceMul, Nat.reduceSub, Nat.reduceLeDiff, Nat.reduceLT, reduceCtorEq]
      exact aw_ret ⟨trivial, _, rfl, Vle.refl _, hsB⟩
    have h14 : questFs l ≤ 14 := by
      have : ¬ 14 < (questFs l : Int) := by simpa using h
      omega
    obtain ⟨hbo, hbl⟩ := bound_ok hv l
    have hp0 := hpz 0
    rw [List.drop_zero] at hp0
    have hsame := q_sames1 (boundF v l) (boundF v l) (boundF v l).isEmpty (boundF v l).isEmpty .no t9 (by omega) hbo
    rw [eqF_self] at hsame
    obtain ⟨hp1, hp2⟩ := pick_build v (tot (rowsA l 0)) (rowsA l 0) (Nat.le_refl _) (rows_nrm l 0)
    have hOf := q_Of l nl .no hll' hok hok2
    have hPk := q_Pick (buildF (tot (rowsA l 0)) (rowsA l 0)) v hv (build_ok _ _ (rows_okA l 0 hok hok2)) (Nat.le_trans hp2 (by rw [tot_rows]; omega))
    have hrows : l.any strangeF = false → firstR v (rowsA l 0) = firstF v l := fun hs => by
      rw [first_rows v l 0 (by
        intro p hp
        cases hc : strangeF p with
        | false => rfl
        | true => rw [List.any_eq_false] at hs; exact absurd hc (hs p hp)), want_first]
    rw [hp1] at hPk
    rw [tot_rows] at hp2 hPk hOf
    generalize hasked : (pickF v (buildF (questFs l) (rowsA l 0))).2 = asked at hPk
    have hp3 : asked ≤ questFs l := by rw [← hasked]; exact hp2
    refine aw_skip (hK4 _ _ ?_)
    refine aw_seq fun K5 hK5 => ?_
    refine aw_sr rfl ?_  -- r15 @low.go:119
    simp only [go_sem, reduceIte, Nat.reduceEqDiff, Nat.reduceAdd, Nat.reduceMul, Nat.reduceSub, Nat.reduceLeDiff, Nat.reduceLT, reduceCtorEq]
    refine goH_q (fun hg => hsame) ?_
    simp only [go_sem, reduceIte, Nat.reduceEqDiff, Nat.reduceAdd, Nat.reduceMul, Nat.reduceSub, Nat.reduceLeDiff, Nat.reduceLT, reduceCtorEq]
    refine aw_if (b := false) ?_ (fun h => by cases h) (fun h => ?_)
    · simp only [go_sem, reduceIte, Nat.reduceEqDiff, Nat.reduceAdd, Nat.reduceMul, Nat.reduceSub, Nat.reduceLeDiff, Nat.reduceLT, reduceCtorEq]
      simp
    refine aw_skip (hK5 _ _ ?_)
    refine aw_srd [(0,true),(1,true),(2,true),(3,true),(4,true),(5,true),(6,true),(7,true),(8,true)] mixed rfl (by kernel_rfl) ?_  -- r17 @low.go:122
    simp only [go_sem, reduceIte, Nat.reduceEqDiff, Nat.reduceAdd, Nat.reduceMul, Nat.reduceSub, Nat.reduceLeDiff, Nat.reduceLT, reduceCtorEq, h3, cTr_len]
    refine goQ_by hOf ?_
    simp only [go_sem, reduceIte, Nat.reduceEqDiff, Nat.reduceAdd, Nat.reduceMul, Nat.reduceSub, Nat.reduceLeDiff, Nat.reduceLT, reduceCtorEq, h3, cTr_len]
    refine goQ_by hPk ?_
    simp only [go_sem, reduceIte, Nat.reduceEqDiff, Nat.reduceAdd, Nat.reduceMul, Nat.reduceSub, Nat.reduceLeDiff, Nat.reduceLT, reduceCtorEq, h3]
    refine aw_sr rfl ?_  -- r18 @low.go:123
    simp only [go_sem, reduceIte, Nat.reduceEqDiff, Nat.reduceAdd, Nat.reduceMul, Nat.reduceSub, Nat.reduceLeDiff, Nat.reduceLT, reduceCtorEq]
    refine goA_q hcs ?_
    simp only [go_sem, reduceIte, Nat.reduceEqDiff, Nat.reduceAdd, Nat.reduceMul, Nat.reduceSub, Nat.reduceLeDiff, Nat.reduceLT, reduceCtorEq]
    refine aw_ret ⟨trivial, _, rfl, ?_, hsB⟩
    cases hs : l.any strangeF with
    | true => exact Vle.refl _
    | false =>
      rw [hrows hs, decide_eq_true rfl, decide_eq_true (show (0 : Int) ≤ (asked : Int) by omega), decide_eq_true (show (asked : Int) ≤ (questFs l : Int) by omega)]
      exact Vle.refl _
end Go.Proofs.Ytclmcpbanaojfaa.armsTells

/- 'roadlaw1.ArmsTells' returns true for every input whose bulk is at most 1048576 values and letters (the statement's own bound): . No other condition. -/
set_option linter.unusedSimpArgs false
set_option linter.unusedVariables false
set_option maxRecDepth 100000
namespace Go.Proofs.Ytclmcpbanaojfaa.armsTells
open Go.ChangeShapes Go.WideShapes Go.ChangeAt Go.RowKit
open Go.Proofs.YtclmcpbanaojfaaV
theorem own : ownKnob Try.prog.godebug = none := by kernel_rfl
theorem laidOut : laidOutB Try.prog = true := by kernel_rfl
theorem uBool : Try.prog.underlying 4 = some .bool := by kernel_rfl
theorem typed {xs : List V} (h : TyAll Try.prog [107, 110] xs) (hs : vszL xs ≤ 1048576) : Quiet Try.prog 6 xs (.bool true) := by
  obtain ⟨x0, x1, rfl, q0, q1⟩ := args h hs
  exact law x0 x1 q0 q1
theorem contract (H : Type) (enc : TypeId × Value → H) (W : World) (base : Nat) (args : Array Value) (ds gs : List (DataW H)) (before : List MemPlace)
    (hval : ∀ (j : Nat) t v, Try.f6.params[j]? = some t → args[j]? = some v → Value.okWide Try.prog W .any base t v)
    (hW : DataW.Whole enc Try.prog Try.f6.params.toList Rows.armsTellsSpec.vars false W args.toList ds gs before) (hk : Rows.uptoSmall H (ds ++ gs) = true) :
    Calls Try.prog 6 args W fun e W' => ∃ v, e = .returned v ∧ Rows.armsTellsSpec.post enc Try.prog Try.f6 false true false false W args v W' := by
  have hW' := hW
  obtain ⟨p, q, hA0, hV, rfl, hfz, hnd⟩ := hW
  have hA : DataW.TrodAll enc Try.prog W 0 (fun _ => true) true Try.f6.params.toList args.toList ds p := hA0
  obtain ⟨rfl, rfl⟩ := trodVars_none hV
  rw [Try.params6] at hA hval
  obtain ⟨xs, hr, ht, hs⟩ := trod_all (fun j t v hj hv => hval j t v (by simpa using hj) (by simpa using hv)) hA
  have hk' : Rows.uptoBulkAll (ds ++ []) ≤ 1048576 := of_decide_eq_true hk
  rw [List.append_nil] at hk'
  have hq := typed ht (Nat.le_trans hs hk')
  refine (ACall.calls (hq []) Try.func6 rfl rfl hr).mono fun e W' ⟨v, he, bel, M', x, G', hx, hxe, _⟩ => ?_
  subst hxe
  have hv := hx.bool_inv
  subst he hv
  have hst := trod_stays laidOut bel (by kernel_rfl) hA
  obtain ⟨v0, vs0, d0, ds0, p0, q0, hargs, rfl, rfl, h0, r0⟩ := trodAll_cons hA
  obtain ⟨v1, vs1, d1, ds1, p1, q1, rfl, rfl, rfl, h1, r1⟩ := trodAll_cons r0
  obtain ⟨rfl, rfl, rfl⟩ := trodAll_nil r1
  exact ⟨_, rfl, _, _, _, [], _, [], hW', trodAll_mk1 (shut_bool uBool _), hst, rfl, bel.frame _, fun h => by cases h⟩
set_option maxRecDepth 100000 in
theorem lifted (os : Os) (started : os.Started) (H : Type) (enc : TypeId × Value → H) (F : Stop.Interp) :
    ReturnsInHanded {} Try.checked os 6 .any ((Rows.OpenSpec.upto Rows.armsTellsSpec).pre6 enc Try.prog Try.f6 Rows.armsTellsUptoRow.domain false) (((Rows.OpenSpec.upto Rows.armsTellsSpec).at F).post enc Try.prog Try.f6 false true false false) := by
  refine returnsInHanded_of_cond (C := Try.checked) (s := Rows.OpenSpec.upto Rows.armsTellsSpec) (k := Rows.uptoSmall) rfl own started (by kernel_rfl) Try.func6
    (OpenSpec.witness (enc := enc) (C := Try.checked) (s := Rows.OpenSpec.upto Rows.armsTellsSpec) (k := Rows.uptoSmall) rfl false ⟨#[], #[(.slice none 0 0), (.agg #[(.int .i64 0), (.int .i64 0), (.string ⟨#[]⟩), (.slice none 0 0)])], []⟩ 8 (by kernel_rfl) (by kernel_rfl) (by kernel_rfl)
      (x := ([.nil, (.agg [(.lit (.int .i64 0)), (.lit (.int .i64 0)), (.lit (.string [])), .nil])], [], [])) (by kernel_rfl) rfl (by kernel_rfl)) ?_
  intro W base args ds gs before hval hW _ hk _
  exact contract H enc W base args ds gs before hval hW hk
set_option maxHeartbeats 4000000 in
theorem joined : joinedFacts Try.pinned.checked.prog 6 Try.f6 (Rows.OpenSpec.upto Rows.armsTellsSpec).bare Rows.armsTellsUptoRow = true := by
  unfold joinedFacts
  simp only [Bool.and_eq_true]
  repeat' apply And.intro
  all_goals (as_aux_lemma => kernel_rfl)
theorem over : Rows.armsTellsUptoRow.holds Try.pinned (Rows.OpenSpec.upto Rows.armsTellsSpec) :=
  OpenClaim.holds_of_cond 6 Try.f6 rfl rfl rfl rfl rfl rfl rfl ⟨rfl, rfl, rfl, rfl, rfl⟩ rfl rfl rfl rfl rfl (by kernel_rfl) Try.func6 joined
    (of_decide_eq_true (by kernel_rfl)) (by unfold Func.isWrapper; first | (rw [if_pos (by decide +kernel)]; kernel_rfl) | (rw [if_neg (by decide +kernel)]; exact ⟨rfl, rfl⟩))
    (fun os started H enc _ F => lifted os started H enc F)
theorem proved : Rows.ArmsTellsUptoSaid := over
#print axioms proved
end Go.Proofs.Ytclmcpbanaojfaa.armsTells
