import Derived.Test.YtomjghlaoncpbaaSolveM
set_option linter.unusedSimpArgs false
set_option linter.unusedVariables false
namespace Go.Proofs.Ytomjghlaoncpbaa
open Go.Proofs.YtomjghlaoncpbaaV
set_option maxHeartbeats 400000
set_option maxRecDepth 100000
structure ToS where
  k : Nat
  i : Nat
  way : List Us
  seen : List (List UInt8)
  nl : Bool
  t : Tag
  H : Heap
structure ToI where
  way : List Us
  nl : Bool
  t : Tag
  H : Heap
def usesOf (m : Option Mo) : List Us := match m with | none => [] | some m => m.2.2.1
theorem findM_step {l : List Mo} {q : Pk} {j : Nat} (hj : j < l.length) (hun : l.Pairwise fun a b => ¬ (a.1 = b.1 ∧ a.2.1 = b.2.1)) :
    (isPk q l[j] = true → findM (l.take j) q = none ∧ findM (l.take (j + 1)) q = some l[j]) ∧ (isPk q l[j] = false → findM (l.take (j + 1)) q = findM (l.take j) q) := by
  have ht : l.take (j + 1) = l.take j ++ [l[j]] := by rw [List.take_add_one, List.getElem?_eq_getElem hj]; rfl
  unfold findM
  rw [ht, List.find?_append]
  constructor
  · intro h
    have hn : (l.take j).find? (isPk q) = none := by
      refine List.find?_eq_none.2 fun x hx hq => ?_
      obtain ⟨a, ha, rfl⟩ := List.getElem_of_mem hx
      have ha' : a < j := by simp at ha; omega
      rw [List.getElem_take] at hq
      have := List.pairwise_iff_getElem.1 hun a j (by omega) hj ha'
      simp only [isPk, Bool.and_eq_true, decide_eq_true_eq] at h hq
      exact this ⟨hq.1.trans h.1.symm, hq.2.trans h.2.symm⟩
    rw [hn]
    simp [h]
  · intro h
    simp [h]
theorem a_told (l : List Mo) (ln : Bool) (root : List Us) (rn : Bool) (ps : List Pk) (b : Nat) (G : Heap) (hgb : hget G b = some (.map (ps.map kvP))) (hll : l.length ≤ bulk) (hrl : root.length ≤ bulk) (hpl : ps.length ≤ bulk)
    (h5 : ∀ m ∈ l, m.2.2.1.length ≤ 5) (hlow : ∀ m ∈ l, ∀ u ∈ m.2.2.1, 1 ≤ u.2.1) (hrlow : ∀ u ∈ root, 1 ≤ u.2.1) (hun : l.Pairwise fun a b => ¬ (a.1 = b.1 ∧ a.2.1 = b.2.1)) :
    ACall Try.prog 134 [.sl (l.map eMo) ln .no, .sl (root.map eUse) rn .no, .map b] (fun y G' => ((runR (verP ps) l (root.length + 6 * ps.length + 1) root [] = none ∧ y = .tup [.nilm, .bool false]) ∨ ∃ seen b', runR (verP ps) l (root.length + 6 * ps.length + 1) root [] = some seen ∧ y = .tup [.map b', .bool true] ∧ hget G' b' = some (.map (seen.map kvT))) ∧ Sub G G') G := by
  have hll' : l.length ≤ 1048576 := hll
  have hrl' : root.length ≤ 1048576 := hrl
  have hpl' : ps.length ≤ 1048576 := hpl
  refine acall_body (rs := [.tmp 6, .tmp 7]) Try.func134 rfl rfl Try.ntmps134 (by kernel_rfl) (Nat.le_of_ble_eq_true rfl) ?_
  refine aw_sr rfl ?_
  simp only [go_sem, reduceIte, Nat.reduceEqDiff, Nat.reduceAdd, Nat.reduceMul, Nat.reduceSub, Nat.reduceLeDiff, Nat.reduceLT, reduceCtorEq]
  refine aw_sr rfl ?_
  simp only [go_sem, reduceIte, Nat.reduceEqDiff, Nat.reduceAdd, Nat.reduceMul, Nat.reduceSub, Nat.reduceLeDiff, Nat.reduceLT, reduceCtorEq]
  intro b8 hb8
  refine aw_sr rfl ?_
  simp only [go_sem, reduceIte, Nat.reduceEqDiff, Nat.reduceAdd, Nat.reduceMul, Nat.reduceSub, Nat.reduceLeDiff, Nat.reduceLT, reduceCtorEq]
  refine goP_room (Room.start _ 3) ⟨rfl, rfl, by decide, by simp, wid_use _, sca_use _, by simp; omega, by simp; omega⟩ fun t1 H1 hr1 => ?_
  simp only [go_sem, reduceIte, Nat.reduceEqDiff, Nat.reduceAdd, Nat.reduceMul, Nat.reduceSub, Nat.reduceLeDiff, Nat.reduceLT, reduceCtorEq]
  refine aw_seq fun K1 hK1 => ?_
  refine aw_sr rfl ?_
  simp only [go_sem, reduceIte, Nat.reduceEqDiff, Nat.reduceAdd, Nat.reduceMul, Nat.reduceSub, Nat.reduceLeDiff, Nat.reduceLT, reduceCtorEq]
  refine aw_block ?_
  have hrem0 : remF ps [] ≤ ps.length := List.length_filter_le _ _
  have hnb : ¬ b = b8 := by intro e; subst e; rw [hb8] at hgb; cases hgb
  refine aw_lph (S := {s : ToS // runR (verP ps) l s.k (s.way.drop s.i) s.seen = runR (verP ps) l (root.length + 6 * ps.length + 1) root [] ∧ s.i ≤ s.way.length ∧ (s.way.length - s.i) + 6 * remF ps s.seen < s.k ∧ s.way.length + 6 * remF ps s.seen ≤ root.length + 6 * ps.length ∧ Room ((b8, .map (s.seen.map kvT)) :: G) 3 s.t s.H ∧ ∀ u ∈ s.way, 1 ≤ u.2.1})
    (fun s => [(9, .sl (s.1.way.map eUse) s.1.nl s.1.t), (8, .map b8), (10, .int .i64 s.1.i), (0, .sl (l.map eMo) ln .no), (2, .map b)]) (fun s => s.1.H) (fun s => s.1.k)
    ⟨⟨root.length + 6 * ps.length + 1, 0, root, [], false && (root.map eUse).isEmpty, t1, H1⟩, rfl, Nat.zero_le _, by show root.length - 0 + 6 * remF ps [] < root.length + 6 * ps.length + 1; omega, by show root.length + 6 * remF ps [] ≤ root.length + 6 * ps.length; omega, hr1, hrlow⟩ ?_ (fun _ _ h => h) ?_
  · simp only [go_sem, reduceIte, Nat.reduceEqDiff, Nat.reduceAdd, Nat.reduceMul, Nat.reduceSub, Nat.reduceLeDiff, Nat.reduceLT, reduceCtorEq, Int.natCast_zero, List.nil_append]
  intro ⟨⟨k, i, way, seen, nl, t, H⟩, i1, i2, i3, i4, i5, i6⟩
  simp only at i1 i2 i3 i4 i5 i6 ⊢
  obtain ⟨k, rfl⟩ : ∃ k', k = k' + 1 := ⟨k - 1, by omega⟩
  have hgm : hget H b8 = some (.map (seen.map kvT)) := i5.sub _ _ (hget_self _ _ _)
  refine aw_seq fun K2 hK2 => ?_
  refine aw_sr rfl ?_
  simp only [go_sem, reduceIte, Nat.reduceEqDiff, Nat.reduceAdd, Nat.reduceMul, Nat.reduceSub, Nat.reduceLeDiff, Nat.reduceLT, reduceCtorEq]
  refine aw_if rfl (fun h => ?_) (fun h => ?_)
  case refine_2 =>
    have hi : way.length ≤ i := by have : (way.length : Int) ≤ (i : Int) := by simpa using h
                                   omega
    rw [List.drop_eq_nil_of_le hi, runR] at i1
    refine aw_exit ?_
    refine hK1 _ _ ?_
    refine aw_sr rfl ?_
    simp only [go_sem, reduceIte, Nat.reduceEqDiff, Nat.reduceAdd, Nat.reduceMul, Nat.reduceSub, Nat.reduceLeDiff, Nat.reduceLT, reduceCtorEq]
    refine aw_ret ⟨trivial, _, rfl, .inr ⟨seen, b8, i1.symm, rfl, hgm⟩, fun b o h => i5.sub _ _ (sub_tail hb8 _ _ h)⟩
  have hi : i < way.length := by have : (i : Int) < (way.length : Int) := by simpa using h
                                 omega
  rw [List.drop_eq_getElem_cons hi] at i1
  refine aw_skip (hK2 _ _ ?_)
  refine aw_seq fun K3 hK3 => ?_
  refine aw_block ?_
  refine aw_sr rfl ?_
  generalize hu : way[i] = u at i1
  simp only [go_sem, reduceIte, Nat.reduceEqDiff, Nat.reduceAdd, Nat.reduceMul, Nat.reduceSub, Nat.reduceLeDiff, Nat.reduceLT, reduceCtorEq, getD_map hi, hu, eUse]
  refine ⟨⟨by omega, by omega, wid_use _⟩, fun b10 hb10 => ?_⟩
  obtain ⟨n108, n10⟩ := fresh_cons (i5.sub_none hb10)
  obtain ⟨H2, hr2, hs2⟩ := i5.push (o := .vars (eUse u)) hb10
  refine AW.of_hsub hs2 ?_
  have n810 : ¬ b8 = b10 := fun e => n108 e.symm
  obtain ⟨H3, hr3, hs3⟩ := hr2.base (sub_swap n810 (x := .map (seen.map kvT)))
  refine AW.of_hsub hs3 ?_
  have hsubG : Sub G H3 := fun b o h => hr3.sub _ _ (sub_fresh hb8 (sub_fresh n10 sub_rfl) _ _ h)
  have hgb3 : hget H3 b = some (.map (ps.map kvP)) := hsubG _ _ hgb
  have hg8 : hget H3 b8 = some (.map (seen.map kvT)) := hr3.sub _ _ (hget_self _ _ _)
  have hg10 : hget H3 b10 = some (.vars (eUse u)) := hr3.sub _ _ (by rw [hget_cons_ne n810, hget_self])
  have hul : 1 ≤ u.2.1 := i6 u (by rw [← hu]; exact List.getElem_mem hi)
  rw [runR] at i1
  rcases mfind_pick (s := u.1) (S := ps) (i := 0) with ⟨hfd, hmf⟩ | ⟨p, jj, hfd, hmf⟩
  · have hv : verP ps u.1 = none := by rw [verP, hfd]; rfl
    rw [hv] at i1
    simp only at i1
    refine aw_sr rfl ?_
    simp only [go_sem, reduceIte, Nat.reduceEqDiff, Nat.reduceAdd, Nat.reduceMul, Nat.reduceSub, Nat.reduceLeDiff, Nat.reduceLT, reduceCtorEq, hgb3, hg10, eUse, hmf]
    refine aw_seq fun K4 hK4 => ?_
    refine aw_sr rfl ?_
    have hz : decide ((0 : Int) < u.2.1) = true := decide_eq_true (by omega)
    simp only [go_sem, reduceIte, Nat.reduceEqDiff, Nat.reduceAdd, Nat.reduceMul, Nat.reduceSub, Nat.reduceLeDiff, Nat.reduceLT, reduceCtorEq, hg10, eUse, hz, not_true_eq_false, false_implies]
    refine aw_if rfl (fun h => ?_) (fun h => by simp at h)
    refine aw_sr rfl ?_
    simp only [go_sem, reduceIte, Nat.reduceEqDiff, Nat.reduceAdd, Nat.reduceMul, Nat.reduceSub, Nat.reduceLeDiff, Nat.reduceLT, reduceCtorEq]
    exact aw_ret ⟨trivial, _, rfl, .inl ⟨i1.symm, rfl⟩, hsubG⟩
  have hv : verP ps u.1 = some p.2 := by rw [verP, hfd]; rfl
  have hpm : p ∈ ps := List.mem_of_find?_eq_some hfd
  have hpn : p.1 = u.1 := by simpa using List.find?_some hfd
  rw [hv] at i1
  simp only at i1
  refine aw_sr rfl ?_
  simp only [go_sem, reduceIte, Nat.reduceEqDiff, Nat.reduceAdd, Nat.reduceMul, Nat.reduceSub, Nat.reduceLeDiff, Nat.reduceLT, reduceCtorEq, hgb3, hg10, eUse, hmf]
  refine aw_seq fun K4 hK4 => ?_
  refine aw_sr rfl ?_
  simp only [go_sem, reduceIte, Nat.reduceEqDiff, Nat.reduceAdd, Nat.reduceMul, Nat.reduceSub, Nat.reduceLeDiff, Nat.reduceLT, reduceCtorEq, hg10, eUse]
  refine aw_if rfl (fun h => ?_) (fun h => ?_)
  · rw [if_pos (by simpa using h)] at i1
    refine aw_sr rfl ?_
    simp only [go_sem, reduceIte, Nat.reduceEqDiff, Nat.reduceAdd, Nat.reduceMul, Nat.reduceSub, Nat.reduceLeDiff, Nat.reduceLT, reduceCtorEq]
    exact aw_ret ⟨trivial, _, rfl, .inl ⟨i1.symm, rfl⟩, hsubG⟩
  rw [if_neg (by simpa using h)] at i1
  refine aw_skip (hK4 _ _ ?_)
  refine aw_seq fun K5 hK5 => ?_
  by_cases hsn : u.1 ∈ seen
  · rw [if_pos hsn] at i1
    obtain ⟨j2, hms⟩ := mfind_in (i := 0) hsn
    refine aw_sr rfl ?_
    simp only [go_sem, reduceIte, Nat.reduceEqDiff, Nat.reduceAdd, Nat.reduceMul, Nat.reduceSub, Nat.reduceLeDiff, Nat.reduceLT, reduceCtorEq, hg8, hg10, eUse, hms]
    refine aw_if rfl (fun h => ?_) (fun h => by cases h)
    refine aw_exit ?_
    refine hK3 _ _ ?_
    refine aw_rg rfl ?_
    have hwi : IntKind.i64.wrap ((i : Int) + 1) = (i : Int) + 1 := wrap64 (by omega) (by omega)
    simp only [go_sem, reduceIte, Nat.reduceEqDiff, Nat.reduceAdd, Nat.reduceMul, Nat.reduceSub, Nat.reduceLeDiff, Nat.reduceLT, reduceCtorEq, hwi]
    obtain ⟨H4, hr4, hs4⟩ := hr3.base (B' := (b8, .map (seen.map kvT)) :: G) (sub_both (sub_tail n10))
    refine ⟨⟨⟨k, i + 1, way, seen, nl, t, H4⟩, i1, by show i + 1 ≤ way.length; omega, by show way.length - (i + 1) + 6 * remF ps seen < k; omega, i4, hr4, i6⟩, by show k < k + 1; omega, ?_, hs4⟩
    simp only [go_sem, reduceIte, Nat.reduceEqDiff, Nat.reduceAdd, Nat.reduceMul, Nat.reduceSub, Nat.reduceLeDiff, Nat.reduceLT, reduceCtorEq, Int.natCast_add, Int.natCast_one]
  rw [if_neg hsn] at i1
  have hms := mfind_out (i := 0) hsn
  refine aw_sr rfl ?_
  simp only [go_sem, reduceIte, Nat.reduceEqDiff, Nat.reduceAdd, Nat.reduceMul, Nat.reduceSub, Nat.reduceLeDiff, Nat.reduceLT, reduceCtorEq, hg8, hg10, eUse, hms]
  refine aw_if rfl (fun h => by cases h) (fun h => ?_)
  refine aw_skip (hK5 _ _ ?_)
  have hupd : seen.map kvT ++ [kvT u.1] = (seen ++ [u.1]).map kvT := by simp
  refine aw_sr rfl ?_
  simp only [go_sem, reduceIte, Nat.reduceEqDiff, Nat.reduceAdd, Nat.reduceMul, Nat.reduceSub, Nat.reduceLeDiff, Nat.reduceLT, reduceCtorEq, hg10, hg8, eUse, hms, mput, hupd]
  have hr4 := hr3.put (x := .map ((seen ++ [u.1]).map kvT))
  have hpp : ((u.1, p.2) : Pk) = p := by rw [← hpn]
  rw [hpp] at i1
  have hrem := remF_lt hpm (by rw [hpn]; exact hsn)
  rw [hpn] at hrem
  generalize hset H3 b8 (.map ((seen ++ [u.1]).map kvT)) = H5 at hr4
  refine aw_sr rfl ?_
  simp only [go_sem, reduceIte, Nat.reduceEqDiff, Nat.reduceAdd, Nat.reduceMul, Nat.reduceSub, Nat.reduceLeDiff, Nat.reduceLT, reduceCtorEq]
  refine aw_seq fun K6 hK6 => ?_
  refine aw_sr rfl ?_
  simp only [go_sem, reduceIte, Nat.reduceEqDiff, Nat.reduceAdd, Nat.reduceMul, Nat.reduceSub, Nat.reduceLeDiff, Nat.reduceLT, reduceCtorEq]
  refine aw_range l.length (S := ToI) (fun j s => [(9, .sl (s.way.map eUse) s.nl s.t), (13, .bool (findM (l.take j) p).isSome), (8, .map b8), (10, .int .i64 i), (11, .ptr b10 0), (12, .int .i64 p.2), (51, .sl (l.map eMo) ln .no), (0, .sl (l.map eMo) ln .no), (2, .map b)]) (fun _ s => s.H) (fun j s => s.way = way ++ usesOf (findM (l.take j) p) ∧ Room ((b8, .map ((seen ++ [u.1]).map kvT)) :: (b10, .vars (eUse u)) :: G) 3 s.t s.H) ⟨way, nl, t, H5⟩ (by omega) ?_ (fun _ _ h => h) ?_ rfl (fun _ _ => rfl) ?_ ?_ (by decide)
  · simp only [go_sem, reduceIte, Nat.reduceEqDiff, Nat.reduceAdd, Nat.reduceMul, Nat.reduceSub, Nat.reduceLeDiff, Nat.reduceLT, reduceCtorEq, Int.natCast_zero, List.take_zero, show findM [] p = none from rfl, Option.isSome_none]
  · exact ⟨by simp [findM, usesOf], hr4⟩
  · intro j ⟨wy, nl2, t2, H6⟩ hj ⟨j1, j2⟩
    simp only at j1 j2 ⊢
    refine aw_sr rfl ?_
    generalize hm : l[j] = m
    have hml : m ∈ l := by rw [← hm]; exact List.getElem_mem hj
    simp only [go_sem, reduceIte, Nat.reduceEqDiff, Nat.reduceAdd, Nat.reduceMul, Nat.reduceSub, Nat.reduceLeDiff, Nat.reduceLT, reduceCtorEq, getD_map hj, hm, eMo]
    refine ⟨⟨by omega, by omega, wid_map (g := eMo) (fun _ => rfl) _⟩, fun b15 hb15 => ?_⟩
    obtain ⟨n158, hx⟩ := fresh_cons (j2.sub_none hb15)
    obtain ⟨n1510, n15⟩ := fresh_cons hx
    obtain ⟨H7, hr7, hs7⟩ := j2.push (o := .vars (eMo m)) hb15
    refine AW.of_hsub hs7 ?_
    have hg15 : hget H7 b15 = some (.vars (eMo m)) := hr7.sub _ _ (hget_self _ _ _)
    have hg10 : hget H7 b10 = some (.vars (eUse u)) := hr7.sub _ _ (by rw [hget_cons_ne n1510, hget_cons_ne n810, hget_self])
    obtain ⟨s1, s2⟩ := findM_step (q := p) hj hun
    rw [hm] at s1 s2
    refine aw_sr rfl ?_
    simp only [go_sem, reduceIte, Nat.reduceEqDiff, Nat.reduceAdd, Nat.reduceMul, Nat.reduceSub, Nat.reduceLeDiff, Nat.reduceLT, reduceCtorEq, hg15, hg10, eMo, eUse]
    have hq : (decide (m.1 = u.1) && decide (m.2.1 = p.2)) = isPk p m := by rw [isPk, hpn]
    refine aw_if rfl (fun h => ?_) (fun h => ?_)
    · obtain ⟨e1, e2⟩ := s1 (by rw [← hq]; simpa using h)
      rw [e1] at j1
      simp only [usesOf, List.append_nil] at j1
      subst j1
      have h5m := h5 m hml
      refine aw_sr rfl ?_
      simp only [go_sem, reduceIte, Nat.reduceEqDiff, Nat.reduceAdd, Nat.reduceMul, Nat.reduceSub, Nat.reduceLeDiff, Nat.reduceLT, reduceCtorEq, hg15, eMo]
      refine goP_room hr7 ⟨rfl, rfl, by decide, wid_use _, wid_use _, sca_use _, by simp; omega, by simp; omega⟩ fun t8 H8 hr8 => ?_
      simp only [go_sem, reduceIte, Nat.reduceEqDiff, Nat.reduceAdd, Nat.reduceMul, Nat.reduceSub, Nat.reduceLeDiff, Nat.reduceLT, reduceCtorEq]
      refine aw_rg rfl ?_
      simp only [go_sem, reduceIte, Nat.reduceEqDiff, Nat.reduceAdd, Nat.reduceMul, Nat.reduceSub, Nat.reduceLeDiff, Nat.reduceLT, reduceCtorEq]
      obtain ⟨H9, hr9, hs9⟩ := hr8.base (B' := (b8, .map ((seen ++ [u.1]).map kvT)) :: (b10, .vars (eUse u)) :: G) (sub_tail (j2.sub_none hb15))
      refine ⟨⟨wy ++ m.2.2.1, nl2 && (m.2.2.1.map eUse).isEmpty, t8, H9⟩, ⟨by rw [e2]; rfl, hr9⟩, ?_, hs9⟩
      simp only [go_sem, reduceIte, Nat.reduceEqDiff, Nat.reduceAdd, Nat.reduceMul, Nat.reduceSub, Nat.reduceLeDiff, Nat.reduceLT, reduceCtorEq, e2, List.map_append, Option.isSome_some]
    · have e2 := s2 (by rw [← hq]; simpa using h)
      obtain ⟨H9, hr9, hs9⟩ := hr7.base (B' := (b8, .map ((seen ++ [u.1]).map kvT)) :: (b10, .vars (eUse u)) :: G) (sub_tail (j2.sub_none hb15))
      refine aw_skip ⟨⟨wy, nl2, t2, H9⟩, ⟨by rw [e2]; exact j1, hr9⟩, ?_, hs9⟩
      simp only [go_sem, reduceIte, Nat.reduceEqDiff, Nat.reduceAdd, Nat.reduceMul, Nat.reduceSub, Nat.reduceLeDiff, Nat.reduceLT, reduceCtorEq, e2]
  · intro ⟨wy, nl2, t2, H6⟩ ⟨j1, j2⟩
    simp only at j1 j2 ⊢
    rw [List.take_length] at j1 ⊢
    refine hK6 _ _ ?_
    refine aw_sr rfl ?_
    simp only [go_sem, reduceIte, Nat.reduceEqDiff, Nat.reduceAdd, Nat.reduceMul, Nat.reduceSub, Nat.reduceLeDiff, Nat.reduceLT, reduceCtorEq]
    have hsubG6 : Sub G H6 := fun b o h => j2.sub _ _ (sub_fresh hb8 (sub_fresh n10 sub_rfl) _ _ h)
    cases hfm : findM l p with
    | none =>
      rw [hfm] at i1
      simp only at i1
      refine aw_if rfl (fun h => ?_) (fun h => by cases h)
      refine aw_sr rfl ?_
      simp only [go_sem, reduceIte, Nat.reduceEqDiff, Nat.reduceAdd, Nat.reduceMul, Nat.reduceSub, Nat.reduceLeDiff, Nat.reduceLT, reduceCtorEq]
      exact aw_ret ⟨trivial, _, rfl, .inl ⟨i1.symm, rfl⟩, hsubG6⟩
    | some m =>
      rw [hfm] at i1 j1
      simp only [usesOf] at i1 j1
      subst j1
      have hml : m ∈ l := List.mem_of_find?_eq_some hfm
      have h5m := h5 m hml
      refine aw_if rfl (fun h => by cases h) (fun h => ?_)
      refine aw_skip (hK3 _ _ ?_)
      refine aw_rg rfl ?_
      have hwi : IntKind.i64.wrap ((i : Int) + 1) = (i : Int) + 1 := wrap64 (by omega) (by omega)
      simp only [go_sem, reduceIte, Nat.reduceEqDiff, Nat.reduceAdd, Nat.reduceMul, Nat.reduceSub, Nat.reduceLeDiff, Nat.reduceLT, reduceCtorEq, hwi]
      obtain ⟨H7, hr7, hs7⟩ := j2.base (B' := (b8, .map ((seen ++ [u.1]).map kvT)) :: G) (sub_both (sub_tail n10))
      have hd : (way ++ m.2.2.1).drop (i + 1) = way.drop (i + 1) ++ m.2.2.1 := List.drop_append_of_le_length (by omega)
      refine ⟨⟨⟨k, i + 1, way ++ m.2.2.1, seen ++ [u.1], nl2, t2, H7⟩, by show runR _ _ k ((way ++ m.2.2.1).drop (i + 1)) _ = _; rw [hd]; exact i1, ?_, ?_, ?_, hr7, ?_⟩, by show k < k + 1; omega, ?_, hs7⟩
      · show i + 1 ≤ (way ++ m.2.2.1).length; rw [List.length_append]; omega
      · show (way ++ m.2.2.1).length - (i + 1) + 6 * remF ps (seen ++ [u.1]) < k; rw [List.length_append]; omega
      · show (way ++ m.2.2.1).length + 6 * remF ps (seen ++ [u.1]) ≤ _; rw [List.length_append]; omega
      · intro x hx
        rcases List.mem_append.1 hx with hx | hx
        · exact i6 x hx
        · exact hlow m hml x hx
      · simp only [go_sem, reduceIte, Nat.reduceEqDiff, Nat.reduceAdd, Nat.reduceMul, Nat.reduceSub, Nat.reduceLeDiff, Nat.reduceLT, reduceCtorEq, Int.natCast_add, Int.natCast_one]
end Go.Proofs.Ytomjghlaoncpbaa
