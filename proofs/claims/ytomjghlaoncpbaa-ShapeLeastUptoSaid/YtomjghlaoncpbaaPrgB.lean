import Derived.Test.YtomjghlaoncpbaaPrgA
set_option linter.unusedSimpArgs false
set_option linter.unusedVariables false
namespace Go.Proofs.Ytomjghlaoncpbaa
open Go.Proofs.YtomjghlaoncpbaaV
set_option maxHeartbeats 400000
set_option maxRecDepth 100000
theorem wid_eEx (vs : List Ex) : wid 8 (vs.map eEx) := wid_map (g := eEx) (fun _ => by rw [eEx_eq]; rfl) _
theorem sca_eEx (vs : List Ex) : sca (vs.map eEx) := by
  intro e he x hx
  obtain ⟨u, _, rfl⟩ := List.mem_map.1 he
  rw [eEx_eq] at hx
  simp only [cEx, List.mem_cons, List.not_mem_nil, or_false] at hx
  rcases hx with rfl | rfl | rfl | rfl | rfl | rfl | rfl | rfl <;> rfl
theorem wid_ePat (vs : List Pat) : wid 4 (vs.map ePat) := wid_map (g := ePat) (fun _ => by rw [ePat_eq]; rfl) _
theorem sca_ePat (vs : List Pat) : sca (vs.map ePat) := by
  intro e he x hx
  obtain ⟨u, _, rfl⟩ := List.mem_map.1 he
  rw [ePat_eq] at hx
  simp only [cPat, List.mem_cons, List.not_mem_nil, or_false] at hx
  rcases hx with rfl | rfl | rfl | rfl <;> rfl
theorem wid_eArm (vs : List Arm) : wid 12 (vs.map eArm) := wid_map (g := eArm) (fun _ => by rw [eArm_eq]; rfl) _
/-- What the types of an expression's nodes keep to. -/
def OkX (x : Ex) : Prop := OkEx x
structure XsS where
  now : List Ex
  n : Nat
  deep : Nat
  nl : Bool
  t : Tag
  H : Heap
structure XsI where
  nx : List Ex
  xn : Bool
  xt : Tag
  px : List Pat
  pn : Bool
  pt : Tag
  H : Heap
structure XsP where
  px : List Pat
  pn : Bool
  pt : Tag
  n : Nat
  d : Nat
  H : Heap
structure XsQ where
  px : List Pat
  pn : Bool
  pt : Tag
  H : Heap
def Rooms2 (G : Heap) (n m : Nat) (t s : Tag) (H : Heap) : Prop := ∃ B, Room B n t H ∧ Room G m s B
theorem Rooms2.sub {G H : Heap} {n m : Nat} {t s : Tag} (h : Rooms2 G n m t s H) : Sub G H := by
  obtain ⟨B, h1, h2⟩ := h
  exact sub_trans h2.sub h1.sub
theorem Rooms2.swap {G H : Heap} {n m : Nat} {t s : Tag} (h : Rooms2 G n m t s H) : ∃ H', Rooms2 G m n s t H' ∧ Sub H' H := by
  obtain ⟨B, h1, h2⟩ := h
  obtain ⟨B', H', g1, g2, g3⟩ := h1.swap h2
  exact ⟨H', ⟨B', g1, g2⟩, g3⟩
/-- A fresh object below both. -/
theorem Rooms2.push {G H : Heap} {n m : Nat} {t s : Tag} {b : Nat} {o : AObj} (h : Rooms2 G n m t s H) (hb : hget H b = none) : ∃ H2, Rooms2 ((b, o) :: G) n m t s H2 ∧ Sub H2 ((b, o) :: H) := by
  obtain ⟨B, h1, h2⟩ := h
  obtain ⟨B2, g1, g2⟩ := h2.push (o := o) (h1.sub_none hb)
  obtain ⟨H2, g3, g4⟩ := h1.push (o := o) hb
  obtain ⟨H3, g5, g6⟩ := g3.base g2
  exact ⟨H3, ⟨B2, g5, g1⟩, sub_trans g6 g4⟩
theorem Rooms2.base {G G' H : Heap} {n m : Nat} {t s : Tag} (h : Rooms2 G n m t s H) (hs : Sub G' G) : ∃ H', Rooms2 G' n m t s H' ∧ Sub H' H := by
  obtain ⟨B, h1, h2⟩ := h
  obtain ⟨B2, g1, g2⟩ := h2.base hs
  obtain ⟨H3, g5, g6⟩ := h1.base g2
  exact ⟨H3, ⟨B2, g5, g1⟩, g6⟩
theorem q_exprSmall (e : Ex) (he : oEx e) : QB Try.prog 100 [.agg (cEx e)] := by
  refine QB.weak fun G => ?_
  have hse : e.sz ≤ 1048576 := he.2
  refine acall_body (rs := [.tmp 2]) Try.func100 rfl rfl Try.ntmps100 (by kernel_rfl) (Nat.le_of_ble_eq_true rfl) ?_
  refine aw_sr rfl ?_
  simp only [go_sem, reduceIte, Nat.reduceEqDiff, Nat.reduceAdd, Nat.reduceMul, Nat.reduceSub, Nat.reduceLeDiff, Nat.reduceLT, reduceCtorEq]
  intro b hb
  refine aw_sr rfl ?_
  simp only [go_sem, reduceIte, Nat.reduceEqDiff, Nat.reduceAdd, Nat.reduceMul, Nat.reduceSub, Nat.reduceLeDiff, Nat.reduceLT, reduceCtorEq]
  refine aw_sr rfl ?_
  simp only [go_sem, reduceIte, Nat.reduceEqDiff, Nat.reduceAdd, Nat.reduceMul, Nat.reduceSub, Nat.reduceLeDiff, Nat.reduceLT, reduceCtorEq]
  refine aw_seq fun K1 hK1 => ?_
  refine aw_sr rfl ?_
  simp only [go_sem, reduceIte, Nat.reduceEqDiff, Nat.reduceAdd, Nat.reduceMul, Nat.reduceSub, Nat.reduceLeDiff, Nat.reduceLT, reduceCtorEq]
  refine aw_block ?_  -- 0
  refine aw_lph (S := {s : XsS // exszs s.now ≤ bulk ∧ s.n ≤ 3000 ∧ s.deep ≤ 101 ∧ Sub G s.H ∧ ∀ x ∈ s.now, OkX x}) (fun s => [(3, .sl (s.1.now.map eEx) s.1.nl s.1.t), (4, .int .i64 s.1.n), (5, .int .i64 s.1.deep)]) (fun s => s.1.H) (fun s => 102 - s.1.deep) ⟨⟨[e], 0, 0, false, .full, (b, .vars (cEx e)) :: G⟩, by simpa [exszs] using hse, by simp, by simp, sub_tail hb, by simpa [OkX] using he.1⟩ ?_ (fun _ _ h => h) ?_
  · simp only [go_sem, reduceIte, Nat.reduceEqDiff, Nat.reduceAdd, Nat.reduceMul, Nat.reduceSub, Nat.reduceLeDiff, Nat.reduceLT, reduceCtorEq, List.map_cons, List.map_nil, eEx_eq, Int.natCast_zero]
  intro ⟨⟨now, n, deep, nl, tg, H⟩, i1, i2, i3, i4, i5⟩
  simp only at i1 i2 i3 i4 i5 ⊢
  have hlen := exszs_len now
  have hb1 : exszs now ≤ 1048576 := i1
  refine aw_seq fun K2 hK2 => ?_
  refine aw_sr rfl ?_
  simp only [go_sem, reduceIte, Nat.reduceEqDiff, Nat.reduceAdd, Nat.reduceMul, Nat.reduceSub, Nat.reduceLeDiff, Nat.reduceLT, reduceCtorEq]
  refine aw_if rfl (fun h => ?_) (fun h => ?_)
  case refine_2 =>
    refine aw_exit ?_  -- 0
    refine hK1 _ _ ?_
    refine aw_sr rfl ?_
    simp only [go_sem, reduceIte, Nat.reduceEqDiff, Nat.reduceAdd, Nat.reduceMul, Nat.reduceSub, Nat.reduceLeDiff, Nat.reduceLT, reduceCtorEq]
    exact aw_ret ⟨trivial, _, rfl, ⟨_, Vle.refl _⟩, i4⟩
  refine aw_skip (hK2 _ _ ?_)
  refine aw_seq fun K3 hK3 => ?_
  refine aw_block ?_  -- 1
  refine aw_seq fun K4 hK4 => ?_
  refine aw_sr rfl ?_
  have hw : IntKind.i64.wrap ((n : Int) + (now.length : Int)) = ((n + now.length : Nat) : Int) := by rw [wrap64 (by omega) (by omega)]; simp
  simp only [go_sem, reduceIte, Nat.reduceEqDiff, Nat.reduceAdd, Nat.reduceMul, Nat.reduceSub, Nat.reduceLeDiff, Nat.reduceLT, reduceCtorEq, hw]
  refine aw_sr rfl ?_
  simp only [go_sem, reduceIte, Nat.reduceEqDiff, Nat.reduceAdd, Nat.reduceMul, Nat.reduceSub, Nat.reduceLeDiff, Nat.reduceLT, reduceCtorEq]
  refine aw_if rfl (fun h => ?_) (fun h => ?_)
  · refine aw_sr rfl ?_
    simp only [go_sem, reduceIte, Nat.reduceEqDiff, Nat.reduceAdd, Nat.reduceMul, Nat.reduceSub, Nat.reduceLeDiff, Nat.reduceLT, reduceCtorEq]
    exact aw_ret ⟨trivial, _, rfl, ⟨_, Vle.refl _⟩, i4⟩
  have hc : ¬ (100 < deep ∨ 3000 < n + now.length) := by
    simp only [Bool.or_eq_false_iff, decide_eq_false_iff_not] at h
    omega
  refine aw_skip (hK4 _ _ ?_)
  refine aw_sr rfl ?_
  simp only [go_sem, reduceIte, Nat.reduceEqDiff, Nat.reduceAdd, Nat.reduceMul, Nat.reduceSub, Nat.reduceLeDiff, Nat.reduceLT, reduceCtorEq]
  refine aw_sr rfl ?_
  simp only [go_sem, reduceIte, Nat.reduceEqDiff, Nat.reduceAdd, Nat.reduceMul, Nat.reduceSub, Nat.reduceLeDiff, Nat.reduceLT, reduceCtorEq]
  refine aw_seq fun K5 hK5 => ?_
  refine aw_sr rfl ?_
  simp only [go_sem, reduceIte, Nat.reduceEqDiff, Nat.reduceAdd, Nat.reduceMul, Nat.reduceSub, Nat.reduceLeDiff, Nat.reduceLT, reduceCtorEq]
  refine aw_range now.length (S := XsI) (fun i s => [(33, .sl (now.map eEx) nl tg), (6, .sl (s.nx.map eEx) s.xn s.xt), (7, .sl (s.px.map ePat) s.pn s.pt), (4, .int .i64 ((n + now.length : Nat) : Int)), (5, .int .i64 deep)]) (fun _ s => s.H)
    (fun i s => Rooms2 H 8 4 s.xt s.pt s.H ∧ exszs s.nx + pszs s.px + exszs (now.drop i) ≤ exszs now ∧ ∀ x ∈ s.nx, OkX x) ⟨[], true, .full, [], true, .full, H⟩ (by omega) ?_ (fun _ _ h => h) ⟨⟨H, Room.start H 8, Room.start H 4⟩, by simp [exszs, pszs], by simp⟩ rfl (fun _ _ => rfl) ?_ ?_ (by decide)
  · simp only [go_sem, reduceIte, Nat.reduceEqDiff, Nat.reduceAdd, Nat.reduceMul, Nat.reduceSub, Nat.reduceLeDiff, Nat.reduceLT, reduceCtorEq, Int.natCast_zero, List.map_nil]
  · intro i ⟨nx, xn, xt, px, pn, pt, H1⟩ hi ⟨j1, j2, j3⟩
    simp only at j1 j2 j3 ⊢
    generalize hx : now[i] = x
    have hxo : OkX x := i5 x (by rw [← hx]; exact List.getElem_mem hi)
    have hxs := x.sz_eq
    rw [List.drop_eq_getElem_cons hi, hx, exszs] at j2
    refine aw_sr rfl ?_
    simp only [go_sem, reduceIte, Nat.reduceEqDiff, Nat.reduceAdd, Nat.reduceMul, Nat.reduceSub, Nat.reduceLeDiff, Nat.reduceLT, reduceCtorEq, getD_map hi, hx, eEx_eq, cEx]
    refine ⟨⟨by omega, by omega, wid_eEx _⟩, fun b9 hb9 => ?_⟩
    obtain ⟨H2, hr2, hs2⟩ := j1.push (o := .vars (cEx x)) hb9
    refine AW.of_hsub hs2 ?_
    have hg9 : hget H2 b9 = some (.vars (cEx x)) := hr2.sub _ _ (hget_self _ _ _)
    refine aw_seq fun K6 hK6 => ?_
    refine aw_sr rfl ?_
    simp only [go_sem, reduceIte, Nat.reduceEqDiff, Nat.reduceAdd, Nat.reduceMul, Nat.reduceSub, Nat.reduceLeDiff, Nat.reduceLT, reduceCtorEq, hg9, cEx]
    refine goA_qb (q_TypesSmall x.types.1 x.types.2 .no hxo.types.2.1) fun bt => ?_
    simp only [go_sem, reduceIte, Nat.reduceEqDiff, Nat.reduceAdd, Nat.reduceMul, Nat.reduceSub, Nat.reduceLeDiff, Nat.reduceLT, reduceCtorEq]
    refine aw_if rfl (fun h => ?_) (fun h => ?_)
    · refine aw_sr rfl ?_
      simp only [go_sem, reduceIte, Nat.reduceEqDiff, Nat.reduceAdd, Nat.reduceMul, Nat.reduceSub, Nat.reduceLeDiff, Nat.reduceLT, reduceCtorEq]
      exact aw_ret ⟨trivial, _, rfl, ⟨_, Vle.refl _⟩, sub_trans i4 (sub_trans (sub_tail (sub_none j1.sub hb9)) hr2.sub)⟩
    refine aw_skip (hK6 _ _ ?_)
    have hxa := exszs_len x.args
    have hxm := amszs_len x.arms
    have hxn := exszs_len nx
    have hxp := pszs_len px
    refine aw_sr rfl ?_
    simp only [go_sem, reduceIte, Nat.reduceEqDiff, Nat.reduceAdd, Nat.reduceMul, Nat.reduceSub, Nat.reduceLeDiff, Nat.reduceLT, reduceCtorEq, hg9, cEx]
    obtain ⟨B, g1, g2⟩ := hr2
    refine goP_room g1 ⟨rfl, rfl, by decide, wid_eEx _, wid_eEx _, sca_eEx _, by simp; omega, by simp; omega⟩ fun t3 H3 hr3 => ?_
    simp only [go_sem, reduceIte, Nat.reduceEqDiff, Nat.reduceAdd, Nat.reduceMul, Nat.reduceSub, Nat.reduceLeDiff, Nat.reduceLT, reduceCtorEq]
    have hg9' : hget H3 b9 = some (.vars (cEx x)) := hr3.sub _ _ (g2.sub _ _ (hget_self _ _ _))
    refine aw_sr rfl ?_
    simp only [go_sem, reduceIte, Nat.reduceEqDiff, Nat.reduceAdd, Nat.reduceMul, Nat.reduceSub, Nat.reduceLeDiff, Nat.reduceLT, reduceCtorEq, hg9', cEx]
    obtain ⟨H4, hr4, hs4⟩ := Rooms2.base (G' := H) ⟨B, hr3, g2⟩ (sub_tail (sub_none j1.sub hb9))
    refine aw_range x.arms.length (S := XsI) (fun j s => [(48, .sl (x.arms.map eArm) x.mnl .no), (6, .sl (s.nx.map eEx) s.xn s.xt), (7, .sl (s.px.map ePat) s.pn s.pt), (4, .int .i64 ((n + now.length : Nat) : Int)), (5, .int .i64 deep), (33, .sl (now.map eEx) nl tg), (35, .int .i64 i), (34, .int .i64 now.length)]) (fun _ s => s.H)
      (fun j s => Rooms2 H 8 4 s.xt s.pt s.H ∧ exszs s.nx + pszs s.px + amszs (x.arms.drop j) + exszs (now.drop (i + 1)) ≤ exszs now ∧ ∀ x ∈ s.nx, OkX x) ⟨nx ++ x.args, xn && (x.args.map eEx).isEmpty, t3, px, pn, pt, H4⟩ (by omega) ?_ hs4 ⟨hr4, ?_, ?_⟩ rfl (fun _ _ => rfl) ?_ ?_ (by decide)
    · simp only [go_sem, reduceIte, Nat.reduceEqDiff, Nat.reduceAdd, Nat.reduceMul, Nat.reduceSub, Nat.reduceLeDiff, Nat.reduceLT, reduceCtorEq, Int.natCast_zero, List.map_append]
    · show exszs (nx ++ x.args) + pszs px + amszs (x.arms.drop 0) + exszs (now.drop (i + 1)) ≤ exszs now
      rw [exszs_append, List.drop_zero]
      omega
    · intro y hy
      rcases List.mem_append.1 hy with hy | hy
      · exact j3 y hy
      · exact hxo.arg hy
    · intro j ⟨nx, xn, xt, px, pn, pt, H5⟩ hj ⟨k1, k2, k3⟩
      simp only at k1 k2 k3 ⊢
      generalize hm : x.arms[j] = m
      have hml : m ∈ x.arms := by rw [← hm]; exact List.getElem_mem hj
      rw [List.drop_eq_getElem_cons hj, hm, amszs] at k2
      have hms := m.sz_eq
      have hxn := exszs_len nx
      have hxp := pszs_len px
      have hbs := m.body.sz_eq
      refine aw_sr rfl ?_
      simp only [go_sem, reduceIte, Nat.reduceEqDiff, Nat.reduceAdd, Nat.reduceMul, Nat.reduceSub, Nat.reduceLeDiff, Nat.reduceLT, reduceCtorEq, getD_map hj, hm, eArm_eq, cPat, cEx]
      refine ⟨⟨by omega, by omega, wid_eArm _⟩, fun b11 hb11 => ?_⟩
      obtain ⟨H6, hr6, hs6⟩ := k1.push (o := .vars (cPat m.pat ++ cEx m.body)) hb11
      refine AW.of_hsub hs6 ?_
      have hg11 : hget H6 b11 = some (.vars (cPat m.pat ++ cEx m.body)) := hr6.sub _ _ (hget_self _ _ _)
      refine aw_sr rfl ?_
      simp only [go_sem, reduceIte, Nat.reduceEqDiff, Nat.reduceAdd, Nat.reduceMul, Nat.reduceSub, Nat.reduceLeDiff, Nat.reduceLT, reduceCtorEq, hg11, cPat, cEx]
      obtain ⟨B, g1, g2⟩ := hr6
      refine goP_room g1 ⟨rfl, rfl, by decide, wid_eEx _, ?_, ?_, by simp; omega, by simp; omega⟩ fun t7 H7 hr7 => ?_
      · have := wid_eEx [m.body]; rw [List.map_cons, eEx_eq] at this; exact this
      · have := sca_eEx [m.body]; rw [List.map_cons, eEx_eq] at this; exact this
      simp only [go_sem, reduceIte, Nat.reduceEqDiff, Nat.reduceAdd, Nat.reduceMul, Nat.reduceSub, Nat.reduceLeDiff, Nat.reduceLT, reduceCtorEq]
      obtain ⟨H8, ⟨B', g3, g4⟩, hs8⟩ := Rooms2.swap ⟨B, hr7, g2⟩
      refine AW.of_hsub hs8 ?_
      have hg11' : hget H8 b11 = some (.vars (cPat m.pat ++ cEx m.body)) := g3.sub _ _ (g4.sub _ _ (hget_self _ _ _))
      refine aw_rg rfl ?_
      simp only [go_sem, reduceIte, Nat.reduceEqDiff, Nat.reduceAdd, Nat.reduceMul, Nat.reduceSub, Nat.reduceLeDiff, Nat.reduceLT, reduceCtorEq, hg11', cPat, cEx]
      refine goP_room g3 ⟨rfl, rfl, by decide, wid_ePat _, ?_, ?_, by simp; omega, by simp; omega⟩ fun t9 H9 hr9 => ?_
      · have := wid_ePat [m.pat]; rw [List.map_cons, ePat_eq] at this; exact this
      · have := sca_ePat [m.pat]; rw [List.map_cons, ePat_eq] at this; exact this
      simp only [go_sem, reduceIte, Nat.reduceEqDiff, Nat.reduceAdd, Nat.reduceMul, Nat.reduceSub, Nat.reduceLeDiff, Nat.reduceLT, reduceCtorEq]
      obtain ⟨H10, hr10, hs10⟩ := Rooms2.swap ⟨B', hr9, g4⟩
      obtain ⟨H11, hr11, hs11⟩ := hr10.base (G' := H) (sub_tail (sub_none k1.sub hb11))
      refine ⟨⟨nx ++ [m.body], false, t7, px ++ [m.pat], false, t9, H11⟩, ⟨hr11, ?_, ?_⟩, ?_, sub_trans hs11 hs10⟩
      · have e1 : pszs [m.pat] = m.pat.sz := by simp [pszs]
        have e2 : exszs [m.body] = m.body.sz := by simp [exszs]
        show exszs (nx ++ [m.body]) + pszs (px ++ [m.pat]) + amszs (x.arms.drop (j + 1)) + exszs (now.drop (i + 1)) ≤ exszs now
        rw [exszs_append, pszs_append, e1, e2]
        omega
      · intro y hy
        rcases List.mem_append.1 hy with hy | hy
        · exact k3 y hy
        · rw [List.mem_singleton.1 hy]; exact hxo.body hml
      · simp only [go_sem, reduceIte, Nat.reduceEqDiff, Nat.reduceAdd, Nat.reduceMul, Nat.reduceSub, Nat.reduceLeDiff, Nat.reduceLT, reduceCtorEq, List.map_append, List.map_cons, List.map_nil, eEx_eq, ePat_eq, cEx, cPat, Bool.and_false]
    · intro ⟨nx, xn, xt, px, pn, pt, H5⟩ ⟨k1, k2, k3⟩
      simp only at k1 k2 k3 ⊢
      rw [List.drop_length, amszs] at k2
      refine ⟨⟨nx, xn, xt, px, pn, pt, H5⟩, ⟨k1, by show exszs nx + pszs px + exszs (now.drop (i + 1)) ≤ exszs now; omega, k3⟩, ?_, fun _ _ h => h⟩
      simp only [go_sem, reduceIte, Nat.reduceEqDiff, Nat.reduceAdd, Nat.reduceMul, Nat.reduceSub, Nat.reduceLeDiff, Nat.reduceLT, reduceCtorEq]
  · intro ⟨nx, xn, xt, px, pn, pt, H1⟩ ⟨j1, j2, j3⟩
    simp only at j1 j2 j3 ⊢
    rw [List.drop_length, exszs] at j2
    refine hK5 _ _ ?_
    refine aw_seq fun K7 hK7 => ?_
    refine aw_sr rfl ?_
    simp only [go_sem, reduceIte, Nat.reduceEqDiff, Nat.reduceAdd, Nat.reduceMul, Nat.reduceSub, Nat.reduceLeDiff, Nat.reduceLT, reduceCtorEq]
    refine aw_block ?_  -- 6
    refine aw_lph (S := {s : XsP // pszs s.px ≤ bulk ∧ s.n ≤ 3000 ∧ s.d ≤ 101 ∧ Sub G s.H}) (fun s => [(7, .sl (s.1.px.map ePat) s.1.pn s.1.pt), (4, .int .i64 s.1.n), (12, .int .i64 s.1.d), (6, .sl (nx.map eEx) xn xt), (5, .int .i64 deep)]) (fun s => s.1.H) (fun s => 102 - s.1.d) ⟨⟨px, pn, pt, n + now.length, 0, H1⟩, by show pszs px ≤ 1048576; omega, by show n + now.length ≤ 3000; omega, by simp, sub_trans i4 j1.sub⟩ ?_ (fun _ _ h => h) ?_
    · simp only [go_sem, reduceIte, Nat.reduceEqDiff, Nat.reduceAdd, Nat.reduceMul, Nat.reduceSub, Nat.reduceLeDiff, Nat.reduceLT, reduceCtorEq, Int.natCast_zero]
    intro ⟨⟨px, pn, pt, n2, d, H2⟩, k1, k2, k3, k4⟩
    simp only at k1 k2 k3 k4 ⊢
    have hxp := pszs_len px
    have hb2 : pszs px ≤ 1048576 := k1
    refine aw_seq fun K8 hK8 => ?_
    refine aw_sr rfl ?_
    simp only [go_sem, reduceIte, Nat.reduceEqDiff, Nat.reduceAdd, Nat.reduceMul, Nat.reduceSub, Nat.reduceLeDiff, Nat.reduceLT, reduceCtorEq]
    refine aw_if rfl (fun h => ?_) (fun h => ?_)
    case refine_2 =>
      refine aw_exit ?_  -- 6
      refine hK7 _ _ ?_
      refine aw_rg rfl ?_
      simp only [go_sem, reduceIte, Nat.reduceEqDiff, Nat.reduceAdd, Nat.reduceMul, Nat.reduceSub, Nat.reduceLeDiff, Nat.reduceLT, reduceCtorEq]
      refine hK3 _ _ ?_
      refine aw_rg rfl ?_
      have hw2 : IntKind.i64.wrap ((deep : Int) + 1) = ((deep + 1 : Nat) : Int) := by rw [wrap64 (by omega) (by omega)]; simp
      simp only [go_sem, reduceIte, Nat.reduceEqDiff, Nat.reduceAdd, Nat.reduceMul, Nat.reduceSub, Nat.reduceLeDiff, Nat.reduceLT, reduceCtorEq, hw2]
      refine ⟨⟨⟨nx, n2, deep + 1, xn, xt, H2⟩, by show exszs nx ≤ 1048576; omega, k2, by show deep + 1 ≤ 101; omega, k4, j3⟩, by show 102 - (deep + 1) < 102 - deep; omega, ?_, fun _ _ h => h⟩
      simp only [go_sem, reduceIte, Nat.reduceEqDiff, Nat.reduceAdd, Nat.reduceMul, Nat.reduceSub, Nat.reduceLeDiff, Nat.reduceLT, reduceCtorEq]
    refine aw_skip (hK8 _ _ ?_)
    refine aw_seq fun K9 hK9 => ?_
    refine aw_block ?_  -- 7
    refine aw_seq fun K10 hK10 => ?_
    refine aw_sr rfl ?_
    have hw3 : IntKind.i64.wrap ((n2 : Int) + (px.length : Int)) = ((n2 + px.length : Nat) : Int) := by rw [wrap64 (by omega) (by omega)]; simp
    simp only [go_sem, reduceIte, Nat.reduceEqDiff, Nat.reduceAdd, Nat.reduceMul, Nat.reduceSub, Nat.reduceLeDiff, Nat.reduceLT, reduceCtorEq, hw3]
    refine aw_sr rfl ?_
    simp only [go_sem, reduceIte, Nat.reduceEqDiff, Nat.reduceAdd, Nat.reduceMul, Nat.reduceSub, Nat.reduceLeDiff, Nat.reduceLT, reduceCtorEq]
    refine aw_if rfl (fun h => ?_) (fun h => ?_)
    · refine aw_sr rfl ?_
      simp only [go_sem, reduceIte, Nat.reduceEqDiff, Nat.reduceAdd, Nat.reduceMul, Nat.reduceSub, Nat.reduceLeDiff, Nat.reduceLT, reduceCtorEq]
      exact aw_ret ⟨trivial, _, rfl, ⟨_, Vle.refl _⟩, k4⟩
    have hc : ¬ (100 < d ∨ 3000 < n2 + px.length) := by
      simp only [Bool.or_eq_false_iff, decide_eq_false_iff_not] at h
      omega
    refine aw_skip (hK10 _ _ ?_)
    refine aw_sr rfl ?_
    simp only [go_sem, reduceIte, Nat.reduceEqDiff, Nat.reduceAdd, Nat.reduceMul, Nat.reduceSub, Nat.reduceLeDiff, Nat.reduceLT, reduceCtorEq]
    refine aw_seq fun K11 hK11 => ?_
    refine aw_sr rfl ?_
    simp only [go_sem, reduceIte, Nat.reduceEqDiff, Nat.reduceAdd, Nat.reduceMul, Nat.reduceSub, Nat.reduceLeDiff, Nat.reduceLT, reduceCtorEq]
    refine aw_range px.length (S := XsQ) (fun i s => [(81, .sl (px.map ePat) pn pt), (13, .sl (s.px.map ePat) s.pn s.pt), (4, .int .i64 ((n2 + px.length : Nat) : Int)), (12, .int .i64 d), (6, .sl (nx.map eEx) xn xt), (5, .int .i64 deep)]) (fun _ s => s.H)
      (fun i s => Room H2 4 s.pt s.H ∧ pszs s.px + pszs (px.drop i) ≤ pszs px) ⟨[], true, .full, H2⟩ (by omega) ?_ (fun _ _ h => h) ⟨Room.start H2 4, by simp [pszs]⟩ rfl (fun _ _ => rfl) ?_ ?_ (by decide)
    · simp only [go_sem, reduceIte, Nat.reduceEqDiff, Nat.reduceAdd, Nat.reduceMul, Nat.reduceSub, Nat.reduceLeDiff, Nat.reduceLT, reduceCtorEq, Int.natCast_zero, List.map_nil]
    · intro i ⟨qx, qn, qt, H3⟩ hi ⟨l1, l2⟩
      simp only at l1 l2 ⊢
      generalize hx : px[i] = x
      rw [List.drop_eq_getElem_cons hi, hx, pszs] at l2
      have hxs := x.sz_eq
      have hq1 := pszs_len qx
      have hq2 := pszs_len x.args
      refine aw_sr rfl ?_
      simp only [go_sem, reduceIte, Nat.reduceEqDiff, Nat.reduceAdd, Nat.reduceMul, Nat.reduceSub, Nat.reduceLeDiff, Nat.reduceLT, reduceCtorEq, getD_map hi, hx, ePat_eq, cPat]
      refine ⟨⟨by omega, by omega, wid_ePat _⟩, fun b15 hb15 => ?_⟩
      obtain ⟨H4, hr4, hs4⟩ := l1.push (o := .vars (cPat x)) hb15
      refine AW.of_hsub hs4 ?_
      have hg15 : hget H4 b15 = some (.vars (cPat x)) := hr4.sub _ _ (hget_self _ _ _)
      refine aw_rg rfl ?_
      simp only [go_sem, reduceIte, Nat.reduceEqDiff, Nat.reduceAdd, Nat.reduceMul, Nat.reduceSub, Nat.reduceLeDiff, Nat.reduceLT, reduceCtorEq, hg15, cPat]
      refine goP_room hr4 ⟨rfl, rfl, by decide, wid_ePat _, wid_ePat _, sca_ePat _, by simp; omega, by simp; omega⟩ fun t5 H5 hr5 => ?_
      simp only [go_sem, reduceIte, Nat.reduceEqDiff, Nat.reduceAdd, Nat.reduceMul, Nat.reduceSub, Nat.reduceLeDiff, Nat.reduceLT, reduceCtorEq]
      obtain ⟨H6, hr6, hs6⟩ := hr5.pop (l1.sub_none hb15)
      refine ⟨⟨qx ++ x.args, qn && (x.args.map ePat).isEmpty, t5, H6⟩, ⟨hr6, ?_⟩, ?_, hs6⟩
      · show pszs (qx ++ x.args) + pszs (px.drop (i + 1)) ≤ pszs px
        rw [pszs_append]; omega
      · simp only [go_sem, reduceIte, Nat.reduceEqDiff, Nat.reduceAdd, Nat.reduceMul, Nat.reduceSub, Nat.reduceLeDiff, Nat.reduceLT, reduceCtorEq, List.map_append]
    · intro ⟨qx, qn, qt, H3⟩ ⟨l1, l2⟩
      simp only at l1 l2 ⊢
      rw [List.drop_length, pszs] at l2
      refine hK11 _ _ ?_
      refine aw_rg rfl ?_
      simp only [go_sem, reduceIte, Nat.reduceEqDiff, Nat.reduceAdd, Nat.reduceMul, Nat.reduceSub, Nat.reduceLeDiff, Nat.reduceLT, reduceCtorEq]
      refine hK9 _ _ ?_
      refine aw_rg rfl ?_
      have hw4 : IntKind.i64.wrap ((d : Int) + 1) = ((d + 1 : Nat) : Int) := by rw [wrap64 (by omega) (by omega)]; simp
      simp only [go_sem, reduceIte, Nat.reduceEqDiff, Nat.reduceAdd, Nat.reduceMul, Nat.reduceSub, Nat.reduceLeDiff, Nat.reduceLT, reduceCtorEq, hw4]
      refine ⟨⟨⟨qx, qn, qt, n2 + px.length, d + 1, H3⟩, by show pszs qx ≤ 1048576; omega, by show n2 + px.length ≤ 3000; omega, by show d + 1 ≤ 101; omega, sub_trans k4 l1.sub⟩, by show 102 - (d + 1) < 102 - d; omega, ?_, fun _ _ h => h⟩
      simp only [go_sem, reduceIte, Nat.reduceEqDiff, Nat.reduceAdd, Nat.reduceMul, Nat.reduceSub, Nat.reduceLeDiff, Nat.reduceLT, reduceCtorEq]
end Go.Proofs.Ytomjghlaoncpbaa
