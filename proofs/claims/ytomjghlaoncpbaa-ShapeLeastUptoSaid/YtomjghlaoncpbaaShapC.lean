import Derived.Test.YtomjghlaoncpbaaShapB
set_option linter.unusedSimpArgs false
set_option linter.unusedVariables false
namespace Go.Proofs.Ytomjghlaoncpbaa
open Go.Proofs.YtomjghlaoncpbaaV
set_option maxHeartbeats 400000
set_option maxRecDepth 100000
theorem VleLL.maps {A : Type} {f g : A → List V} (h : ∀ a, VleL (f a) (g a)) : ∀ xs : List A, VleLL (xs.map f) (xs.map g)
  | [] => .nil
  | x :: xs => .cons (h x) (VleLL.maps h xs)
/-- Types of all that a maker takes. -/
def partsF (p : Prgm) (s : Scp) (t : Typ) (name : List UInt8) : Option (List Typ × Scp) :=
  match dataF p t.name with
  | none => none
  | some d => match d.2.2.1.find? (fun m => decide (m.1 = name)) with
    | none => none
    | some m => if d.2.1.1.length = t.args.length then some (m.2.1, (d.2.1, (t.args, t.nl)) :: s) else none
def partsV : Option (List Typ × Scp) → V
  | none => .tup [.sl [] true .no, .bool false]
  | some (ts, s) => .tup [.sl (ts.map (eBd s)) ts.isEmpty .no, .bool true]
theorem find_ix {A : Type} (f : A → Bool) (xs : List A) : (xs.find? f = none ∧ xs.findIdx? f = none) ∨ ∃ i, ∃ h : i < xs.length, xs.find? f = some xs[i] ∧ xs.findIdx? f = some i := by
  cases h : xs.findIdx? f with
  | none => exact .inl ⟨List.find?_eq_none.2 fun x hx => by rw [List.findIdx?_eq_none_iff.1 h x hx]; simp, rfl⟩
  | some i =>
    obtain ⟨hi, h1, h2⟩ := List.findIdx?_eq_some_iff_getElem.1 h
    exact .inr ⟨i, hi, List.find?_eq_some_iff_getElem.2 ⟨h1, i, hi, rfl, fun j hj => by simpa using h2 j hj⟩, rfl⟩
theorem empty_take {A : Type} {l : List A} {i : Nat} (h : i < l.length) : (l.take (i + 1)).isEmpty = false := by
  cases l with
  | nil => simp at h
  | cons a l => rfl
theorem q_parts (p : Prgm) (s : Scp) (t : Typ) (name : List UInt8) (hp : o56 p.2.2.2.1) (ht : OkTyp t) : Quiet Try.prog 138 [.agg (cBd s t), .agg (cPrg p), .str name] (partsV (partsF p s t name)) := by
  refine Quiet.weak fun G => ?_
  have htl : t.args.length ≤ 1048576 := ht.len
  refine acall_body (rs := [.tmp 6, .tmp 7]) Try.func138 rfl rfl Try.ntmps138 (by kernel_rfl) (Nat.le_of_ble_eq_true rfl) ?_
  refine aw_sr rfl ?_
  simp only [go_sem, reduceIte, Nat.reduceEqDiff, Nat.reduceAdd, Nat.reduceMul, Nat.reduceSub, Nat.reduceLeDiff, Nat.reduceLT, reduceCtorEq]
  intro b3 hb3 b4 hb4 b5 hb5
  obtain ⟨n43, hb4'⟩ := fresh_cons hb4
  obtain ⟨n54, hx⟩ := fresh_cons hb5
  obtain ⟨n53, hb5'⟩ := fresh_cons hx
  have n45 : ¬ b4 = b5 := fun e => n54 e.symm
  have n35 : ¬ b3 = b5 := fun e => n53 e.symm
  have n34 : ¬ b3 = b4 := fun e => n43 e.symm
  generalize hB : (b5, AObj.vars [.str name]) :: (b4, .vars (cPrg p)) :: (b3, .vars (cBd s t)) :: G = B
  have hsB : Sub G B := by rw [← hB]; exact sub_fresh hb5' (sub_fresh hb4' (sub_tail hb3))
  have h5 : hget B b5 = some (.vars [.str name]) := by rw [← hB, hget_self]
  have h4 : hget B b4 = some (.vars (cPrg p)) := by rw [← hB, hget_cons_ne n54, hget_self]
  have h3 : hget B b3 = some (.vars (cBd s t)) := by rw [← hB, hget_cons_ne n53, hget_cons_ne n43, hget_self]
  clear hB
  refine aw_sr rfl ?_
  simp only [go_sem, reduceIte, Nat.reduceEqDiff, Nat.reduceAdd, Nat.reduceMul, Nat.reduceSub, Nat.reduceLeDiff, Nat.reduceLT, reduceCtorEq, h3, h4, h5, cBd, e62]
  refine goA_q (q_data p t.name hp.2.1) ?_
  simp only [go_sem, reduceIte, Nat.reduceEqDiff, Nat.reduceAdd, Nat.reduceMul, Nat.reduceSub, Nat.reduceLeDiff, Nat.reduceLT, reduceCtorEq]
  intro b8 hb8
  generalize hd : (dataF p t.name).getD zDat = d
  refine ⟨⟨by simp [e175, scalarV], rfl⟩, ?_⟩
  obtain ⟨C, hC⟩ : ∃ C, C = (b8, AObj.vars (eData d)) :: B := ⟨_, rfl⟩
  have hsC0 : Sub C ((b8, AObj.vars (eData d)) :: B) := by rw [hC]; exact sub_rfl
  refine AW.of_hsub hsC0 ?_
  have hsC : Sub B C := by rw [hC]; exact sub_tail hb8
  have h8 : hget C b8 = some (.vars (eData d)) := by rw [hC, hget_self]
  replace h3 := hsC _ _ h3
  replace h4 := hsC _ _ h4
  replace h5 := hsC _ _ h5
  clear hC hsC0
  have hml : d.2.2.1.length ≤ bulk ∧ ∀ m ∈ d.2.2.1, m.2.1.length ≤ bulk := by
    cases hdf : dataF p t.name with
    | none => rw [hdf] at hd; subst hd; simp [zDat]
    | some d0 =>
      rw [hdf] at hd
      subst hd
      have := hp.2.2 d0 (List.mem_of_find?_eq_some hdf)
      exact ⟨this.2.2.2.1, fun m hm => (this.2.2.2.2 m hm).2.len⟩
  have hml' : d.2.2.1.length ≤ 1048576 := hml.1
  refine aw_sr rfl ?_
  simp only [go_sem, reduceIte, Nat.reduceEqDiff, Nat.reduceAdd, Nat.reduceMul, Nat.reduceSub, Nat.reduceLeDiff, Nat.reduceLT, reduceCtorEq, h8, e175]
  refine goA_on (q_IndexMak [(b5, .vars [.str name])] 169 [] [.ptr b5 0] (fun m => decide (m.1 = name)) d.2.2.1 d.2.2.2 .no (le_bulk hml.1) fun m _ => q_parts1 m b5 name) (sub_one h5) ?_
  simp only [go_sem, reduceIte, Nat.reduceEqDiff, Nat.reduceAdd, Nat.reduceMul, Nat.reduceSub, Nat.reduceLeDiff, Nat.reduceLT, reduceCtorEq]
  refine aw_seq fun K1 hK1 => ?_
  refine aw_sr rfl ?_
  simp only [go_sem, reduceIte, Nat.reduceEqDiff, Nat.reduceAdd, Nat.reduceMul, Nat.reduceSub, Nat.reduceLeDiff, Nat.reduceLT, reduceCtorEq, h8, h3, e175, cBd]
  have hsGC : Sub G C := sub_trans hsB hsC
  rcases find_ix (fun m : Mak => decide (m.1 = name)) d.2.2.1 with ⟨e1, e2⟩ | ⟨i, hi, e1, e2⟩
  · have hpf : partsF p s t name = none := by
      unfold partsF
      cases hdf : dataF p t.name with
      | none => rfl
      | some d0 => rw [hdf] at hd; subst hd; simp only [Option.getD_some] at e1; simp only [e1]
    rw [e2]
    refine aw_if rfl (fun h => ?_) (fun h => by simp [ixI] at h)
    refine aw_sr rfl ?_
    simp only [go_sem, reduceIte, Nat.reduceEqDiff, Nat.reduceAdd, Nat.reduceMul, Nat.reduceSub, Nat.reduceLeDiff, Nat.reduceLT, reduceCtorEq]
    refine aw_ret ⟨trivial, _, rfl, ?_, hsGC⟩
    rw [hpf]
    exact Vle.tupL (.cons Vle.untag (.cons (Vle.refl _) .nil))
  obtain ⟨d0, hdf⟩ : ∃ d0, dataF p t.name = some d0 := by
    cases hdf : dataF p t.name with
    | none => rw [hdf] at hd; subst hd; simp [zDat] at hi
    | some d0 => exact ⟨d0, rfl⟩
  rw [hdf] at hd ⊢
  simp only [Option.getD_some] at hd
  subst hd
  generalize hm : d0.2.2.1[i] = m at e1
  have hmm : m ∈ d0.2.2.1 := by rw [← hm]; exact List.getElem_mem hi
  have hma := hml.2 m hmm
  have hma' : m.2.1.length ≤ 1048576 := hma
  have hneg : decide ((ixI (some i) : Int) < 0) = false := decide_eq_false (by simp only [ixI]; omega)
  rw [e2, hneg]
  refine aw_if rfl (fun h => ?_) (fun h => ?_)
  · have hpf : partsF p s t name = none := by
      unfold partsF
      rw [hdf]
      simp only [e1]
      exact if_neg (by simpa [Int.natCast_inj] using h)
    refine aw_sr rfl ?_
    simp only [go_sem, reduceIte, Nat.reduceEqDiff, Nat.reduceAdd, Nat.reduceMul, Nat.reduceSub, Nat.reduceLeDiff, Nat.reduceLT, reduceCtorEq]
    refine aw_ret ⟨trivial, _, rfl, ?_, hsGC⟩
    rw [hpf]
    exact Vle.tupL (.cons Vle.untag (.cons (Vle.refl _) .nil))
  have hpf : partsF p s t name = some (m.2.1, (d0.2.1, (t.args, t.nl)) :: s) := by
    unfold partsF
    rw [hdf]
    simp only [e1]
    exact if_pos (by simpa [Int.natCast_inj] using h)
  refine aw_skip (hK1 _ _ ?_)
  refine aw_sr rfl ?_
  simp only [go_sem, reduceIte, Nat.reduceEqDiff, Nat.reduceAdd, Nat.reduceMul, Nat.reduceSub, Nat.reduceLeDiff, Nat.reduceLT, reduceCtorEq]
  refine aw_seq fun K2 hK2 => ?_
  refine aw_sr rfl ?_
  simp only [go_sem, reduceIte, Nat.reduceEqDiff, Nat.reduceAdd, Nat.reduceMul, Nat.reduceSub, Nat.reduceLeDiff, Nat.reduceLT, reduceCtorEq, h3, cBd]
  refine aw_range t.args.length (S := Bool × Tag × Heap) (fun j s' => [(47, .sl (t.args.map eTyp) t.nl .no), (11, .sl ((t.args.take j).map (eBd s)) s'.1 s'.2.1), (12, .sl [] true .full), (10, .int .i64 i), (8, .ptr b8 0), (3, .ptr b3 0)]) (fun _ s' => s'.2.2) (fun j s' => s'.1 = (t.args.take j).isEmpty ∧ Room C 5 s'.2.1 s'.2.2) (true, .full, C) (by omega) ?_ (fun _ _ h => h) ⟨rfl, Room.start C 5⟩ rfl (fun _ _ => rfl) ?_ ?_ (by decide)
  · simp only [go_sem, reduceIte, Nat.reduceEqDiff, Nat.reduceAdd, Nat.reduceMul, Nat.reduceSub, Nat.reduceLeDiff, Nat.reduceLT, reduceCtorEq, Int.natCast_zero, List.take_zero, List.map_nil, ixI]
  · intro j ⟨nl, tg, H⟩ hj ⟨j1, j2⟩
    simp only at j1 j2 ⊢
    generalize ha : t.args[j] = a
    refine aw_sr rfl ?_
    simp only [go_sem, reduceIte, Nat.reduceEqDiff, Nat.reduceAdd, Nat.reduceMul, Nat.reduceSub, Nat.reduceLeDiff, Nat.reduceLT, reduceCtorEq, getD_map hj, ha, eTyp_eq, cTyp]
    refine ⟨⟨by omega, by omega, wid_eTyp _⟩, fun b14 hb14 => ?_⟩
    obtain ⟨H2, hr2, hs2⟩ := j2.push (o := .vars (cTyp a)) hb14
    refine AW.of_hsub hs2 ?_
    have hg14 : hget H2 b14 = some (.vars (cTyp a)) := hr2.sub _ _ (hget_self _ _ _)
    have hg3 : hget H2 b3 = some (.vars (cBd s t)) := hr2.sub _ _ (sub_tail (j2.sub_none hb14) _ _ h3)
    refine aw_rg rfl ?_
    simp only [go_sem, reduceIte, Nat.reduceEqDiff, Nat.reduceAdd, Nat.reduceMul, Nat.reduceSub, Nat.reduceLeDiff, Nat.reduceLT, reduceCtorEq, hg14, hg3, cTyp, cBd]
    refine goP_room hr2 ⟨rfl, rfl, by decide, wid_eBd _ _, ?_, ?_, by simp; omega, by simp; omega⟩ fun t5 H5 hr5 => ?_
    · have := wid_eBd s [a]; rw [List.map_cons, eBd_eq] at this; exact this
    · have := sca_eBd s [a]; rw [List.map_cons, eBd_eq] at this; exact this
    simp only [go_sem, reduceIte, Nat.reduceEqDiff, Nat.reduceAdd, Nat.reduceMul, Nat.reduceSub, Nat.reduceLeDiff, Nat.reduceLT, reduceCtorEq]
    obtain ⟨H6, hr6, hs6⟩ := hr5.pop (j2.sub_none hb14)
    have ht : t.args.take (j + 1) = t.args.take j ++ [a] := by rw [List.take_add_one, List.getElem?_eq_getElem hj, ha]; rfl
    refine ⟨(false, t5, H6), ⟨(empty_take hj).symm, hr6⟩, ?_, hs6⟩
    simp only [go_sem, reduceIte, Nat.reduceEqDiff, Nat.reduceAdd, Nat.reduceMul, Nat.reduceSub, Nat.reduceLeDiff, Nat.reduceLT, reduceCtorEq, ht, List.map_append, List.map_cons, List.map_nil, eBd_eq, cBd, Bool.and_false]
  intro ⟨nl, tg, H⟩ ⟨j1, j2⟩
  simp only at j1 j2 ⊢
  rw [List.take_length] at j1 ⊢
  have h8H : hget H b8 = some (.vars (eData d0)) := j2.sub _ _ h8
  refine hK2 _ _ ?_
  refine aw_seq fun K3 hK3 => ?_
  refine aw_sr rfl ?_
  simp only [go_sem, reduceIte, Nat.reduceEqDiff, Nat.reduceAdd, Nat.reduceMul, Nat.reduceSub, Nat.reduceLeDiff, Nat.reduceLT, reduceCtorEq, h8H, e175, getD_map hi, hm, e177]
  refine ⟨⟨by omega, by omega, wid_map (g := eMake) (fun _ => rfl) _⟩, ?_⟩
  obtain ⟨F, hF⟩ : ∃ F : Typ → List V, ∀ a, F a = [.int .i64 a.kind, .str a.name, .sl (a.args.map eTyp) a.nl .no, .sl (d0.2.1.1.map eNm) d0.2.1.2 .no, .sl (t.args.map (eBd s)) nl tg] := ⟨fun a => _, fun a => rfl⟩
  have hwF : ∀ xs : List Typ, wid 5 (xs.map F) := fun xs => wid_map (g := F) (fun _ => by rw [hF]; rfl) _
  have hsF : ∀ xs : List Typ, sca (xs.map F) := fun xs => by
    intro e he x hx
    obtain ⟨u, _, rfl⟩ := List.mem_map.1 he
    rw [hF] at hx
    simp only [List.mem_cons, List.not_mem_nil, or_false] at hx
    rcases hx with rfl | rfl | rfl | rfl | rfl <;> rfl
  refine aw_range m.2.1.length (S := Bool × Tag × Heap) (fun j s' => [(68, .sl (m.2.1.map eTyp) m.2.2 .no), (12, .sl ((m.2.1.take j).map F) s'.1 s'.2.1), (11, .sl (t.args.map (eBd s)) nl tg), (8, .ptr b8 0)]) (fun _ s' => s'.2.2) (fun j s' => s'.1 = (m.2.1.take j).isEmpty ∧ Room H 5 s'.2.1 s'.2.2) (true, .full, H) (by omega) ?_ (fun _ _ h => h) ⟨rfl, Room.start H 5⟩ rfl (fun _ _ => rfl) ?_ ?_ (by decide)
  · simp only [go_sem, reduceIte, Nat.reduceEqDiff, Nat.reduceAdd, Nat.reduceMul, Nat.reduceSub, Nat.reduceLeDiff, Nat.reduceLT, reduceCtorEq, Int.natCast_zero, List.take_zero, List.map_nil]
  · intro j ⟨nl2, tg2, H1⟩ hj ⟨k1, k2⟩
    simp only at k1 k2 ⊢
    generalize ha : m.2.1[j] = a
    refine aw_sr rfl ?_
    simp only [go_sem, reduceIte, Nat.reduceEqDiff, Nat.reduceAdd, Nat.reduceMul, Nat.reduceSub, Nat.reduceLeDiff, Nat.reduceLT, reduceCtorEq, getD_map hj, ha, eTyp_eq, cTyp]
    refine ⟨⟨by omega, by omega, wid_eTyp _⟩, fun b16 hb16 => ?_⟩
    obtain ⟨H2, hr2, hs2⟩ := k2.push (o := .vars (cTyp a)) hb16
    refine AW.of_hsub hs2 ?_
    have hg16 : hget H2 b16 = some (.vars (cTyp a)) := hr2.sub _ _ (hget_self _ _ _)
    have hg8 : hget H2 b8 = some (.vars (eData d0)) := hr2.sub _ _ (sub_tail (k2.sub_none hb16) _ _ h8H)
    refine aw_rg rfl ?_
    have hFl : (F a).length = 5 := by rw [hF]; rfl
    simp only [go_sem, reduceIte, Nat.reduceEqDiff, Nat.reduceAdd, Nat.reduceMul, Nat.reduceSub, Nat.reduceLeDiff, Nat.reduceLT, reduceCtorEq, hg16, hg8, cTyp, e175, ← hF, hFl]
    have hlt : (m.2.1.take j).length ≤ 1048576 := by rw [List.length_take]; omega
    refine goP_room hr2 ⟨rfl, rfl, by decide, hwF _, ?_, ?_, by simp only [List.length_map, List.length_cons, List.length_nil]; omega, by simp only [List.length_map, List.length_cons, List.length_nil]; omega⟩ fun t5 H5 hr5 => ?_
    · exact hwF [a]
    · exact hsF [a]
    simp only [go_sem, reduceIte, Nat.reduceEqDiff, Nat.reduceAdd, Nat.reduceMul, Nat.reduceSub, Nat.reduceLeDiff, Nat.reduceLT, reduceCtorEq]
    obtain ⟨H6, hr6, hs6⟩ := hr5.pop (k2.sub_none hb16)
    have ht : m.2.1.take (j + 1) = m.2.1.take j ++ [a] := by rw [List.take_add_one, List.getElem?_eq_getElem hj, ha]; rfl
    refine ⟨(false, t5, H6), ⟨(empty_take hj).symm, hr6⟩, ?_, hs6⟩
    simp only [go_sem, reduceIte, Nat.reduceEqDiff, Nat.reduceAdd, Nat.reduceMul, Nat.reduceSub, Nat.reduceLeDiff, Nat.reduceLT, reduceCtorEq, ht, List.map_append, List.map_cons, List.map_nil, Bool.and_false]
  intro ⟨nl2, tg2, H1⟩ ⟨k1, k2⟩
  simp only at k1 k2 ⊢
  rw [List.take_length] at k1 ⊢
  refine hK3 _ _ ?_
  refine aw_sr rfl ?_
  simp only [go_sem, reduceIte, Nat.reduceEqDiff, Nat.reduceAdd, Nat.reduceMul, Nat.reduceSub, Nat.reduceLeDiff, Nat.reduceLT, reduceCtorEq]
  refine aw_ret ⟨trivial, _, rfl, ?_, sub_trans hsGC (sub_trans j2.sub k2.sub)⟩
  rw [hpf, k1]
  refine Vle.tupL (.cons (Vle.slE (VleLL.maps (fun a => ?_) _)) (.cons (Vle.refl _) .nil))
  rw [hF, eBd_eq, j1]
  exact .cons (Vle.refl _) (.cons (Vle.refl _) (.cons (Vle.refl _) (.cons (Vle.refl _) (.cons Vle.untag .nil))))
end Go.Proofs.Ytomjghlaoncpbaa
