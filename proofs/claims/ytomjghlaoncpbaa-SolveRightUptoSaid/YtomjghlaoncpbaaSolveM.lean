import Derived.Test.YtomjghlaoncpbaaSolveL
set_option linter.unusedSimpArgs false
set_option linter.unusedVariables false
namespace Go.Proofs.Ytomjghlaoncpbaa
open Go.Proofs.YtomjghlaoncpbaaV
set_option maxHeartbeats 400000
set_option maxRecDepth 100000
/-- The version that is picked of a name. -/
def verP (ps : List Pk) (n : List UInt8) : Option Int := (ps.find? fun p => decide (p.1 = n)).map (·.2)
/-- All that is wanted, one by one; none: something is wrong. -/
def runR (ver : List UInt8 → Option Int) (l : List Mo) : Nat → List Us → List (List UInt8) → Option (List (List UInt8))
  | 0, _, _ => none
  | _ + 1, [], seen => some seen
  | k + 1, u :: way, seen => match ver u.1 with
    | none => none
    | some v => if (decide (v < u.2.1) || decide (v > u.2.2)) = true then none else if u.1 ∈ seen then runR ver l k way seen else match findM l (u.1, v) with
      | none => none
      | some m => runR ver l k (way ++ m.2.2.1) (seen ++ [u.1])
/-- Picks whose names are not yet seen. -/
def remF (ps : List Pk) (seen : List (List UInt8)) : Nat := (ps.filter fun p => !decide (p.1 ∈ seen)).length
theorem filter_lt {A : Type} {q r : A → Bool} : ∀ {l : List A}, (∀ x, q x = true → r x = true) → ∀ {x}, x ∈ l → r x = true → q x = false → (l.filter q).length < (l.filter r).length
  | a :: l, h, x, hx, h1, h2 => by
    have hle : ∀ l : List A, (l.filter q).length ≤ (l.filter r).length := by
      intro l
      induction l with
      | nil => simp
      | cons a l ih =>
        rw [List.filter_cons, List.filter_cons]
        cases hq : q a with
        | true => rw [h a hq]; simpa using ih
        | false => cases r a <;> simp <;> omega
    rw [List.filter_cons, List.filter_cons]
    rcases List.mem_cons.1 hx with rfl | hx
    · rw [h1, h2]
      have := hle l
      simp; omega
    · have ih := filter_lt (l := l) h hx h1 h2
      cases hq : q a with
      | true => rw [h a hq]; simpa using ih
      | false => cases r a <;> simp <;> omega
theorem remF_lt {ps : List Pk} {seen : List (List UInt8)} {p : Pk} (hp : p ∈ ps) (hn : ¬ p.1 ∈ seen) : remF ps (seen ++ [p.1]) < remF ps seen := by
  refine filter_lt (fun x hx => ?_) hp (by simp [hn]) (by simp)
  simp only [Bool.not_eq_true', decide_eq_false_iff_not, List.mem_append, not_or] at hx ⊢
  exact hx.1
theorem room_slice {G H : Heap} {n : Nat} {t : Tag} {len : Nat} (h : Room G n t H) : Room G n (sliceTag t n 1 len len) H := by
  rcases h with ⟨rfl, rfl⟩ | ⟨b, e, c, rfl, hn, rfl⟩
  · exact .inl ⟨by simp [sliceTag], rfl⟩
  · exact .inr ⟨b, e, c, by simp [sliceTag], hn, rfl⟩
theorem a_CloneUse (us : List Us) (nl : Bool) (t : Tag) (G : Heap) (hl : us.length ≤ bulk) (hnl : nl = true → us = []) :
    ACall Try.prog 114 [.sl (us.map eUse) nl t] (fun y G' => ∃ nl' t', y = .sl (us.map eUse) nl' t' ∧ Room G 3 t' G') G := by
  have hl' : us.length ≤ 1048576 := hl
  refine acall_body (rs := [.tmp 2]) Try.func114 rfl rfl Try.ntmps114 (by kernel_rfl) (Nat.le_of_ble_eq_true rfl) ?_
  refine aw_sr rfl ?_
  simp only [go_sem, reduceIte, Nat.reduceEqDiff, Nat.reduceAdd, Nat.reduceMul, Nat.reduceSub, Nat.reduceLeDiff, Nat.reduceLT, reduceCtorEq]
  refine aw_seq fun K hK => ?_
  refine aw_sr rfl ?_
  simp only [go_sem, reduceIte, Nat.reduceEqDiff, Nat.reduceAdd, Nat.reduceMul, Nat.reduceSub, Nat.reduceLeDiff, Nat.reduceLT, reduceCtorEq]
  refine aw_if rfl (fun h => ?_) (fun h => ?_)
  · refine aw_sr rfl ?_
    simp only [go_sem, reduceIte, Nat.reduceEqDiff, Nat.reduceAdd, Nat.reduceMul, Nat.reduceSub, Nat.reduceLeDiff, Nat.reduceLT, reduceCtorEq]
    refine aw_ret ⟨trivial, _, rfl, true, .full, ?_, Room.start G 3⟩
    rw [hnl h]; rfl
  · refine aw_skip (hK _ _ ?_)
    refine aw_sr rfl ?_
    simp only [go_sem, reduceIte, Nat.reduceEqDiff, Nat.reduceAdd, Nat.reduceMul, Nat.reduceSub, Nat.reduceLeDiff, Nat.reduceLT, reduceCtorEq]
    refine goP_new ?_ fun t' H' hr => ?_
    · exact ⟨rfl, rfl, by decide, by simp, wid_map (g := eUse) (fun _ => rfl) _, sca_use _, by simp; omega, by simp; omega⟩
    simp only [go_sem, reduceIte, Nat.reduceEqDiff, Nat.reduceAdd, Nat.reduceMul, Nat.reduceSub, Nat.reduceLeDiff, Nat.reduceLT, reduceCtorEq]
    exact aw_ret ⟨trivial, _, rfl, _, t', rfl, hr⟩
structure RtS where
  k : Nat
  way : List Us
  seen : List (List UInt8)
  nl : Bool
  t : Tag
  H : Heap
def rightF (l : List Mo) (root : List Us) (ps : List Pk) : Bool :=
  match runR (verP ps) l (root.length + 6 * ps.length + 1) root [] with
  | none => false
  | some seen => decide (seen.length = ps.length) && sortF ps
theorem wid_use (us : List Us) : wid 3 (us.map eUse) := wid_map (g := eUse) (fun _ => rfl) _
theorem q_Right (l : List Mo) (ln : Bool) (root : List Us) (rn : Bool) (ps : List Pk) (pn : Bool) (hll : l.length ≤ bulk) (hlo : ∀ m ∈ l, OkMo m) (hrl : root.length ≤ bulk) (hrn : rn = true → root = []) (hru : ∀ u ∈ root, (u.1.length : Int) ≤ 9223372036854775807) (hpl : ps.length ≤ bulk)
    (hc : Int) (hcq : Quiet Try.prog 56 [.sl (l.map eMo) ln .no] (.int .i64 hc)) (h5 : hc = 0 → ∀ m ∈ l, m.2.2.1.length ≤ 5) :
    Quiet Try.prog 87 [.sl (l.map eMo) ln .no, .sl (root.map eUse) rn .no, .sl (ps.map ePk) pn .no] (.bool (if hc ≠ 0 ∨ wantsF root ≠ 0 then false else rightF l root ps)) := by
  have hll' : l.length ≤ 1048576 := hll
  have hrl' : root.length ≤ 1048576 := hrl
  have hpl' : ps.length ≤ 1048576 := hpl
  refine Quiet.weak fun G => ?_
  refine acall_body (rs := [.tmp 6]) Try.func87 rfl rfl Try.ntmps87 (by kernel_rfl) (Nat.le_of_ble_eq_true rfl) ?_
  refine aw_sr rfl ?_
  simp only [go_sem, reduceIte, Nat.reduceEqDiff, Nat.reduceAdd, Nat.reduceMul, Nat.reduceSub, Nat.reduceLeDiff, Nat.reduceLT, reduceCtorEq]
  refine aw_seq fun K1 hK1 => ?_
  refine aw_sr rfl ?_
  simp only [go_sem, reduceIte, Nat.reduceEqDiff, Nat.reduceAdd, Nat.reduceMul, Nat.reduceSub, Nat.reduceLeDiff, Nat.reduceLT, reduceCtorEq]
  refine goA_q hcq ?_
  simp only [go_sem, reduceIte, Nat.reduceEqDiff, Nat.reduceAdd, Nat.reduceMul, Nat.reduceSub, Nat.reduceLeDiff, Nat.reduceLT, reduceCtorEq]
  refine goH_q (fun hg => q_Wants root rn .no hrl hru) ?_
  simp only [go_sem, reduceIte, Nat.reduceEqDiff, Nat.reduceAdd, Nat.reduceMul, Nat.reduceSub, Nat.reduceLeDiff, Nat.reduceLT, reduceCtorEq]
  refine aw_if rfl (fun h => ?_) (fun h => ?_)
  · refine aw_sr rfl ?_
    simp only [go_sem, reduceIte, Nat.reduceEqDiff, Nat.reduceAdd, Nat.reduceMul, Nat.reduceSub, Nat.reduceLeDiff, Nat.reduceLT, reduceCtorEq]
    refine aw_ret ⟨trivial, _, rfl, ?_, fun _ _ h => h⟩
    rw [if_pos (by simpa [wantsF] using h)]
    exact Vle.refl _
  have hok : hc = 0 ∧ wantsF root = 0 := by simpa [wantsF] using h
  have h5' := h5 hok.1
  refine aw_skip (hK1 _ _ ?_)
  refine aw_sr rfl ?_
  simp only [go_sem, reduceIte, Nat.reduceEqDiff, Nat.reduceAdd, Nat.reduceMul, Nat.reduceSub, Nat.reduceLeDiff, Nat.reduceLT, reduceCtorEq]
  refine aw_sr rfl ?_
  simp only [go_sem, reduceIte, Nat.reduceEqDiff, Nat.reduceAdd, Nat.reduceMul, Nat.reduceSub, Nat.reduceLeDiff, Nat.reduceLT, reduceCtorEq]
  refine goA_by (a_CloneUse root rn .no G hrl hrn) fun y G1 hy => ?_
  obtain ⟨nl1, t1, rfl, hr1⟩ := hy
  simp only [go_sem, reduceIte, Nat.reduceEqDiff, Nat.reduceAdd, Nat.reduceMul, Nat.reduceSub, Nat.reduceLeDiff, Nat.reduceLT, reduceCtorEq]
  refine aw_sr rfl ?_
  simp only [go_sem, reduceIte, Nat.reduceEqDiff, Nat.reduceAdd, Nat.reduceMul, Nat.reduceSub, Nat.reduceLeDiff, Nat.reduceLT, reduceCtorEq]
  intro b9 hb9
  have hb9G := hr1.sub_none hb9
  obtain ⟨H0, hr0, hs0⟩ := hr1.push (o := .map (([] : List (List UInt8)).map kvT)) hb9
  refine AW.of_hsub hs0 ?_
  refine aw_seq fun K2 hK2 => ?_
  refine aw_block ?_
  have hrem0 : remF ps [] ≤ ps.length := List.length_filter_le _ _
  refine aw_lph (S := {s : RtS // runR (verP ps) l s.k s.way s.seen = runR (verP ps) l (root.length + 6 * ps.length + 1) root [] ∧ s.way.length + 6 * remF ps s.seen < s.k ∧ s.k ≤ root.length + 6 * ps.length + 1 ∧ s.seen.length ≤ ps.length ∧ Room ((b9, .map (s.seen.map kvT)) :: G) 3 s.t s.H ∧ s.seen.length + remF ps s.seen ≤ ps.length})
    (fun s => [(8, .sl (s.1.way.map eUse) s.1.nl s.1.t), (9, .map b9), (7, .int .i64 s.1.seen.length), (0, .sl (l.map eMo) ln .no), (2, .sl (ps.map ePk) pn .no)]) (fun s => s.1.H) (fun s => s.1.k)
    ⟨⟨root.length + 6 * ps.length + 1, root, [], nl1, t1, H0⟩, rfl, by show root.length + 6 * remF ps [] < root.length + 6 * ps.length + 1; have : remF ps [] ≤ ps.length := List.length_filter_le _ _; omega, Nat.le_refl _, by simp, hr0, by simpa using hrem0⟩ ?_ (fun _ _ h => h) ?_
  · simp only [go_sem, reduceIte, Nat.reduceEqDiff, Nat.reduceAdd, Nat.reduceMul, Nat.reduceSub, Nat.reduceLeDiff, Nat.reduceLT, reduceCtorEq, Int.natCast_zero, List.length_nil]
  intro ⟨⟨k, way, seen, nl, t, H⟩, i1, i2, i3, i4, i5, i6⟩
  simp only at i1 i2 i3 i4 i5 i6 ⊢
  obtain ⟨k, rfl⟩ : ∃ k', k = k' + 1 := ⟨k - 1, by omega⟩
  have hgm : hget H b9 = some (.map (seen.map kvT)) := i5.sub _ _ (hget_self _ _ _)
  refine aw_seq fun K3 hK3 => ?_
  refine aw_sr rfl ?_
  simp only [go_sem, reduceIte, Nat.reduceEqDiff, Nat.reduceAdd, Nat.reduceMul, Nat.reduceSub, Nat.reduceLeDiff, Nat.reduceLT, reduceCtorEq]
  cases way with
  | nil =>
    refine aw_if rfl (fun h => by simp at h) (fun h => ?_)
    refine aw_exit ?_
    refine hK2 _ _ ?_
    rw [runR] at i1
    refine aw_sr rfl ?_
    simp only [go_sem, reduceIte, Nat.reduceEqDiff, Nat.reduceAdd, Nat.reduceMul, Nat.reduceSub, Nat.reduceLeDiff, Nat.reduceLT, reduceCtorEq]
    refine goH_q (fun hg => q_isSorted ps pn .no hpl) ?_
    simp only [go_sem, reduceIte, Nat.reduceEqDiff, Nat.reduceAdd, Nat.reduceMul, Nat.reduceSub, Nat.reduceLeDiff, Nat.reduceLT, reduceCtorEq]
    refine aw_ret ⟨trivial, _, rfl, ?_, fun b o h => i5.sub _ _ (sub_tail hb9G _ _ h)⟩
    have e : decide ((seen.length : Int) = (ps.length : Int)) = decide (seen.length = ps.length) := decide_eq_decide.2 (by omega)
    rw [if_neg (by rw [hok.1, hok.2]; simp), rightF, ← i1, e]
    exact Vle.refl _
  | cons u way =>
    rw [runR] at i1
    refine aw_if rfl (fun h => ?_) (fun h => by simp at h)
    refine aw_skip (hK3 _ _ ?_)
    refine aw_block ?_
    refine aw_sr rfl ?_
    have h0 : 0 < (u :: way).length := by simp
    simp only [go_sem, reduceIte, Nat.reduceEqDiff, Nat.reduceAdd, Nat.reduceMul, Nat.reduceSub, Nat.reduceLeDiff, Nat.reduceLT, reduceCtorEq, getD_map h0, Int.toNat_zero, List.getElem_cons_zero, eUse]
    refine ⟨⟨by omega, by omega, wid_use _⟩, fun b10 hb10 => ?_⟩
    have hbase10 := i5.sub_none hb10
    obtain ⟨n109, n10⟩ := fresh_cons hbase10
    obtain ⟨H1, hr1, hs1⟩ := i5.push (o := .vars (eUse u)) hb10
    refine AW.of_hsub hs1 ?_
    have hg10 : hget H1 b10 = some (.vars (eUse u)) := hr1.sub _ _ (hget_self _ _ _)
    have hg9 : hget H1 b9 = some (.map (seen.map kvT)) := hr1.sub _ _ (by rw [hget_cons_ne n109, hget_self])
    have hsl : List.drop (Int.toNat 1) (List.take (way.length + 1) (List.map eUse (u :: way))) = way.map eUse := by
      rw [List.take_of_length_le (by simp)]; rfl
    refine aw_sr rfl ?_
    simp only [go_sem, reduceIte, Nat.reduceEqDiff, Nat.reduceAdd, Nat.reduceMul, Nat.reduceSub, Nat.reduceLeDiff, Nat.reduceLT, reduceCtorEq, hsl]
    refine ⟨⟨⟨by omega, by omega⟩, wid_use _⟩, ?_⟩
    have hr2 := room_slice (len := way.length + 1) hr1
    have ht2 : sliceTag t 3 (Int.toNat 1) (way.length + 1) (way.length + 1) = sliceTag t 3 1 (way.length + 1) (way.length + 1) := rfl
    rw [ht2]
    generalize sliceTag t 3 1 (way.length + 1) (way.length + 1) = t2 at hr2
    refine aw_sr rfl ?_
    simp only [go_sem, reduceIte, Nat.reduceEqDiff, Nat.reduceAdd, Nat.reduceMul, Nat.reduceSub, Nat.reduceLeDiff, Nat.reduceLT, reduceCtorEq]
    refine goA_on (q_IndexFuncP [(b10, .vars (eUse u))] 129 [] [.ptr b10 0] (fun p => decide (p.1 = u.1)) ps pn .no (le_bulk hpl) fun p _ => q_right1 p b10 u) (sub_one hg10) ?_
    simp only [go_sem, reduceIte, Nat.reduceEqDiff, Nat.reduceAdd, Nat.reduceMul, Nat.reduceSub, Nat.reduceLeDiff, Nat.reduceLT, reduceCtorEq]
    have hver : verP ps u.1 = (ps.find? fun p => decide (p.1 = u.1)).map (·.2) := rfl
    have hsubG : Sub G H1 := fun b o h => hr1.sub _ _ (sub_fresh n10 (sub_tail hb9G) _ _ h)
    cases hfd : ps.find? (fun p => decide (p.1 = u.1)) with
    | none =>
      rw [hver, hfd] at i1
      simp only [Option.map_none] at i1
      have hi : idxF (fun p : Pk => decide (p.1 = u.1)) ps = -1 := idxF_none fun j hj => by
        have := List.find?_eq_none.1 hfd _ (List.getElem_mem hj)
        simpa using this
      rw [hi]
      refine aw_seq fun K4 hK4 => ?_
      have hn1 : decide ((-1 : Int) < 0) = true := rfl
      refine aw_srd [(0,true),(1,true),(2,true),(3,true),(4,true),(5,true),(6,true),(7,true),(8,true),(9,true),(10,true),(11,true),(12,true),(13,true),(14,true),(15,true),(16,true),(17,true),(18,true),(19,true),(20,true),(21,true)] mixed rfl (by kernel_rfl) ?_
      have hcs : (ps.map ePk).getD (Int.toNat (-1)) [] = [] ∨ ∃ p0, (ps.map ePk).getD (Int.toNat (-1)) [] = cPk p0 := by
        cases ps with
        | nil => exact .inl rfl
        | cons p0 ps => exact .inr ⟨p0, rfl⟩
      rcases hcs with hcs | ⟨p0, hcs⟩
      · simp only [go_sem, reduceIte, Nat.reduceEqDiff, Nat.reduceAdd, Nat.reduceMul, Nat.reduceSub, Nat.reduceLeDiff, Nat.reduceLT, reduceCtorEq, hn1, hg10, eUse, hcs, not_true_eq_false, false_implies]
        refine aw_if rfl (fun h => ?_) (fun h => by cases h)
        refine aw_sr rfl ?_
        simp only [go_sem, reduceIte, Nat.reduceEqDiff, Nat.reduceAdd, Nat.reduceMul, Nat.reduceSub, Nat.reduceLeDiff, Nat.reduceLT, reduceCtorEq]
        refine aw_ret ⟨trivial, _, rfl, ?_, hsubG⟩
        rw [if_neg (by rw [hok.1, hok.2]; simp), rightF, ← i1]
        exact Vle.refl _
      · simp only [go_sem, reduceIte, Nat.reduceEqDiff, Nat.reduceAdd, Nat.reduceMul, Nat.reduceSub, Nat.reduceLeDiff, Nat.reduceLT, reduceCtorEq, hn1, hg10, eUse, hcs, cPk, not_true_eq_false, false_implies]
        refine aw_if rfl (fun h => ?_) (fun h => by cases h)
        refine aw_sr rfl ?_
        simp only [go_sem, reduceIte, Nat.reduceEqDiff, Nat.reduceAdd, Nat.reduceMul, Nat.reduceSub, Nat.reduceLeDiff, Nat.reduceLT, reduceCtorEq]
        refine aw_ret ⟨trivial, _, rfl, ?_, hsubG⟩
        rw [if_neg (by rw [hok.1, hok.2]; simp), rightF, ← i1]
        exact Vle.refl _
    | some p =>
      obtain ⟨hp, i, hi, hpi, hbef⟩ := List.find?_eq_some_iff_getElem.1 hfd
      have hx : idxF (fun p : Pk => decide (p.1 = u.1)) ps = (i : Int) := idxF_at hi (by rw [hpi]; exact hp) fun j hj => by simpa using hbef j hj
      rw [hx]
      rw [hver, hfd] at i1
      simp only [Option.map_some] at i1
      have hname : p.1 = u.1 := by simpa using hp
      have hpm : p ∈ ps := by rw [← hpi]; exact List.getElem_mem hi
      have hneg : decide ((i : Int) < 0) = false := by simp
      refine aw_seq fun K4 hK4 => ?_
      refine aw_srd [(0,true),(1,true),(2,true),(3,true),(4,true),(5,true),(6,true),(7,true),(8,true),(9,true),(10,true),(11,true),(12,true),(13,true),(14,true),(15,true),(16,true),(17,true),(18,true),(19,true),(20,true),(21,true)] mixed rfl (by kernel_rfl) ?_
      simp only [go_sem, reduceIte, Nat.reduceEqDiff, Nat.reduceAdd, Nat.reduceMul, Nat.reduceSub, Nat.reduceLeDiff, Nat.reduceLT, reduceCtorEq, hneg, getD_map hi, hpi, ePk, cPk, hg10, eUse]
      refine ⟨fun _ => ⟨by omega, by omega, wid_map (g := ePk) (fun _ => rfl) _⟩, fun _ => ⟨by omega, by omega, wid_map (g := ePk) (fun _ => rfl) _⟩, ?_⟩
      refine aw_if rfl (fun h => ?_) (fun h => ?_)
      · rw [if_pos (by simpa using h)] at i1
        refine aw_sr rfl ?_
        simp only [go_sem, reduceIte, Nat.reduceEqDiff, Nat.reduceAdd, Nat.reduceMul, Nat.reduceSub, Nat.reduceLeDiff, Nat.reduceLT, reduceCtorEq]
        refine aw_ret ⟨trivial, _, rfl, ?_, hsubG⟩
        rw [if_neg (by rw [hok.1, hok.2]; simp), rightF, ← i1]
        exact Vle.refl _
      rw [if_neg (by simpa using h)] at i1
      refine aw_skip (hK4 _ _ ?_)
      refine aw_seq fun K5 hK5 => ?_
      by_cases hsn : u.1 ∈ seen
      · rw [if_pos hsn] at i1
        obtain ⟨jj, hmf⟩ := mfind_in (i := 0) hsn
        refine aw_sr rfl ?_
        simp only [go_sem, reduceIte, Nat.reduceEqDiff, Nat.reduceAdd, Nat.reduceMul, Nat.reduceSub, Nat.reduceLeDiff, Nat.reduceLT, reduceCtorEq, hg9, hg10, eUse, hmf]
        refine aw_if rfl (fun h => ?_) (fun h => by cases h)
        refine aw_exit ?_
        obtain ⟨H3, hr3, hs3⟩ := hr2.pop hbase10
        refine ⟨⟨⟨k, way, seen, nl, t2, H3⟩, i1, by show way.length + 6 * remF ps seen < k; simp only [List.length_cons] at i2; omega, by show k ≤ _; omega, i4, hr3, i6⟩, by show k < k + 1; omega, ?_, hs3⟩
        simp only [go_sem, reduceIte, Nat.reduceEqDiff, Nat.reduceAdd, Nat.reduceMul, Nat.reduceSub, Nat.reduceLeDiff, Nat.reduceLT, reduceCtorEq]
      rw [if_neg hsn] at i1
      have hmf := mfind_out (i := 0) hsn
      refine aw_sr rfl ?_
      simp only [go_sem, reduceIte, Nat.reduceEqDiff, Nat.reduceAdd, Nat.reduceMul, Nat.reduceSub, Nat.reduceLeDiff, Nat.reduceLT, reduceCtorEq, hg9, hg10, eUse, hmf]
      refine aw_if rfl (fun h => by cases h) (fun h => ?_)
      refine aw_skip (hK5 _ _ ?_)
      refine aw_sr rfl ?_
      simp only [go_sem, reduceIte, Nat.reduceEqDiff, Nat.reduceAdd, Nat.reduceMul, Nat.reduceSub, Nat.reduceLeDiff, Nat.reduceLT, reduceCtorEq, getD_map hi, hpi, ePk, cPk]
      refine ⟨⟨by omega, by omega, wid_map (g := ePk) (fun _ => rfl) _⟩, ?_⟩
      refine goA_q (q_findS l ln .no p hll) ?_
      simp only [go_sem, reduceIte, Nat.reduceEqDiff, Nat.reduceAdd, Nat.reduceMul, Nat.reduceSub, Nat.reduceLeDiff, Nat.reduceLT, reduceCtorEq]
      intro b12 hb12
      refine ⟨⟨by simp [eMo, scalarV], rfl⟩, ?_⟩
      have hpp : ((u.1, p.2) : Pk) = p := by rw [← hname]
      rw [hpp] at i1
      refine aw_seq fun K6 hK6 => ?_
      refine aw_sr rfl ?_
      simp only [go_sem, reduceIte, Nat.reduceEqDiff, Nat.reduceAdd, Nat.reduceMul, Nat.reduceSub, Nat.reduceLeDiff, Nat.reduceLT, reduceCtorEq]
      cases hfm : findM l p with
      | none =>
        rw [hfm] at i1
        simp only at i1
        refine aw_if rfl (fun h => ?_) (fun h => by cases h)
        refine aw_sr rfl ?_
        simp only [go_sem, reduceIte, Nat.reduceEqDiff, Nat.reduceAdd, Nat.reduceMul, Nat.reduceSub, Nat.reduceLeDiff, Nat.reduceLT, reduceCtorEq]
        refine aw_ret ⟨trivial, _, rfl, ?_, sub_fresh (sub_none hsubG hb12) hsubG⟩
        rw [if_neg (by rw [hok.1, hok.2]; simp), rightF, ← i1]
        exact Vle.refl _
      | some m =>
        rw [hfm] at i1
        simp only at i1
        have hml := h5' m (List.mem_of_find?_eq_some hfm)
        have hrem := remF_lt hpm (by rw [hname]; exact hsn)
        rw [hname] at hrem
        simp only [Option.getD_some]
        refine aw_if rfl (fun h => by cases h) (fun h => ?_)
        refine aw_skip (hK6 _ _ ?_)
        obtain ⟨H3, hr3, hs3⟩ := hr2.push (o := .vars (eMo m)) hb12
        refine AW.of_hsub hs3 ?_
        have hb12b := hr2.sub_none hb12
        obtain ⟨n1210, hx⟩ := fresh_cons hb12b
        obtain ⟨n129, n12⟩ := fresh_cons hx
        obtain ⟨H4, hr4, hs4⟩ := hr3.base (sub_trans (sub_swap (a := b9) (b := b12) (x := .map (seen.map kvT)) (fun e => n129 e.symm)) (sub_both (sub_swap (fun e => n109 e.symm))))
        refine AW.of_hsub hs4 ?_
        have hg9' : hget H4 b9 = some (.map (seen.map kvT)) := hr4.sub _ _ (hget_self _ _ _)
        have n912 : ¬ b9 = b12 := fun e => n129 e.symm
        have n910 : ¬ b9 = b10 := fun e => n109 e.symm
        have hg12' : hget H4 b12 = some (.vars (eMo m)) := hr4.sub _ _ (by rw [hget_cons_ne n912, hget_self])
        have hg10' : hget H4 b10 = some (.vars (eUse u)) := hr4.sub _ _ (by rw [hget_cons_ne n910, hget_cons_ne n1210, hget_self])
        have hupd : seen.map kvT ++ [kvT u.1] = (seen ++ [u.1]).map kvT := by simp
        refine aw_sr rfl ?_
        simp only [go_sem, reduceIte, Nat.reduceEqDiff, Nat.reduceAdd, Nat.reduceMul, Nat.reduceSub, Nat.reduceLeDiff, Nat.reduceLT, reduceCtorEq, hg10', hg9', eUse, hmf, mput]
        have hr5 := hr4.put (x := .map ((seen ++ [u.1]).map kvT))
        have hg12s : hget (hset H4 b9 (.map ((seen ++ [u.1]).map kvT))) b12 = some (.vars (eMo m)) := by rw [hget_hset_ne (fun e => n912 e.symm)]; exact hg12'
        have hsc : (ps.length : Int) ≤ 1048576 := by omega
        have hs1 : seen.length + 1 ≤ ps.length := by omega
        have hwr : IntKind.i64.wrap ((seen.length : Int) + 1) = (seen.length : Int) + 1 := by rw [wrap64 (by omega) (by omega)]
        refine aw_sr rfl ?_
        simp only [go_sem, reduceIte, Nat.reduceEqDiff, Nat.reduceAdd, Nat.reduceMul, Nat.reduceSub, Nat.reduceLeDiff, Nat.reduceLT, reduceCtorEq, hwr]
        refine aw_rg rfl ?_
        simp only [go_sem, reduceIte, Nat.reduceEqDiff, Nat.reduceAdd, Nat.reduceMul, Nat.reduceSub, Nat.reduceLeDiff, Nat.reduceLT, reduceCtorEq, hg12s, eMo, hupd]
        have hway : way.length ≤ 8388608 := by simp only [List.length_cons] at i2; omega
        refine goP_room hr5 ⟨rfl, rfl, by decide, wid_use _, wid_use _, sca_use _, by simp; omega, by simp; omega⟩ fun t6 H6 hr6 => ?_
        simp only [go_sem, reduceIte, Nat.reduceEqDiff, Nat.reduceAdd, Nat.reduceMul, Nat.reduceSub, Nat.reduceLeDiff, Nat.reduceLT, reduceCtorEq]
        obtain ⟨H7, hr7, hs7⟩ := hr6.base (B' := (b9, .map ((seen ++ [u.1]).map kvT)) :: G) (sub_both (sub_fresh n12 (sub_fresh n10 sub_rfl)))
        have hnn : (nl && (m.2.2.1.map eUse).isEmpty) = (nl && (m.2.2.1.map eUse).isEmpty) := rfl
        refine ⟨⟨⟨k, way ++ m.2.2.1, seen ++ [u.1], nl && (m.2.2.1.map eUse).isEmpty, t6, H7⟩, i1, ?_, ?_, ?_, hr7, ?_⟩, by show k < k + 1; omega, ?_, hs7⟩
        · simp only [List.length_append, List.length_cons] at i2 ⊢; omega
        · show k ≤ _; omega
        · simp only [List.length_append, List.length_cons, List.length_nil]; omega
        · simp only [List.length_append, List.length_cons, List.length_nil]; omega
        · simp only [go_sem, reduceIte, Nat.reduceEqDiff, Nat.reduceAdd, Nat.reduceMul, Nat.reduceSub, Nat.reduceLeDiff, Nat.reduceLT, reduceCtorEq, List.map_append, List.length_append, List.length_cons, List.length_nil, Int.natCast_add, Int.natCast_one, Nat.zero_add]
end Go.Proofs.Ytomjghlaoncpbaa
