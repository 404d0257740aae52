import Derived.Test.YtomjghlaoncpbaaShapC
set_option linter.unusedSimpArgs false
set_option linter.unusedVariables false
namespace Go.Proofs.Ytomjghlaoncpbaa
open Go.Proofs.YtomjghlaoncpbaaV
set_option maxHeartbeats 400000
set_option maxRecDepth 100000
theorem q_EqualFuncB (s : Scp) (H0 : Heap) (F : FuncId) (us ws : List V) (f : Typ → Val → Bool) (xs : List Typ) (ys : List Val) (n1 n2 : Bool) (t1 t2 : Tag) (hx : (xs.length : Int) ≤ 9223372036854775807)
    (hF : ∀ a ∈ xs, ∀ b ∈ ys, QuietOn Try.prog H0 F (us ++ [.agg (cBd s a), .agg (cV b)] ++ ws) (.bool (f a b))) :
    QuietOn Try.prog H0 139 [.sl (xs.map (eBd s)) n1 t1, .sl (ys.map eVal) n2 t2, .func (.func F) us ws] (.bool (eqF f xs ys)) := by
  refine QuietOn.weak fun G hG => ?_
  refine acall_body (rs := [.tmp 6]) Try.func139 rfl rfl Try.ntmps139 (by kernel_rfl) (Nat.le_of_ble_eq_true rfl) ?_
  refine aw_sr rfl ?_
  simp only [go_sem, reduceIte, Nat.reduceEqDiff, Nat.reduceAdd, Nat.reduceMul, Nat.reduceSub, Nat.reduceLeDiff, Nat.reduceLT, reduceCtorEq]
  refine aw_seq fun K1 hK1 => ?_
  refine aw_sr rfl ?_
  simp only [go_sem, reduceIte, Nat.reduceEqDiff, Nat.reduceAdd, Nat.reduceMul, Nat.reduceSub, Nat.reduceLeDiff, Nat.reduceLT, reduceCtorEq]
  refine aw_if rfl (fun h => ?_) (fun h => ?_)
  · refine aw_sr rfl ?_
    simp only [go_sem, reduceIte, Nat.reduceEqDiff, Nat.reduceAdd, Nat.reduceMul, Nat.reduceSub, Nat.reduceLeDiff, Nat.reduceLT, reduceCtorEq]
    refine aw_ret ⟨trivial, _, rfl, ?_, fun _ _ h => h⟩
    have h : ¬ xs.length = ys.length := by simpa [Int.natCast_inj] using h
    rw [eqF, decide_eq_false h]
    exact Vle.refl _
  · refine aw_skip (hK1 _ _ ?_)
    have hl : xs.length = ys.length := by simpa [Int.natCast_inj] using h
    refine aw_seq fun K2 hK2 => ?_
    refine aw_sr rfl ?_
    simp only [go_sem, reduceIte, Nat.reduceEqDiff, Nat.reduceAdd, Nat.reduceMul, Nat.reduceSub, Nat.reduceLeDiff, Nat.reduceLT, reduceCtorEq]
    refine aw_range xs.length (S := Unit) (fun _ _ => [(15, .sl (xs.map (eBd s)) n1 t1), (1, .sl (ys.map eVal) n2 t2), (2, .func (.func F) us ws)]) (fun _ _ => G) (fun i _ => ((xs.take i).zip (ys.take i)).all (fun p => f p.1 p.2) = true) () hx ?_ (fun _ _ h => h) rfl rfl (fun _ _ => rfl) ?_ ?_ (by decide)
    · simp only [go_sem, reduceIte, Nat.reduceEqDiff, Nat.reduceAdd, Nat.reduceMul, Nat.reduceSub, Nat.reduceLeDiff, Nat.reduceLT, reduceCtorEq, Int.natCast_zero]
    · intro i _ hi he
      have hi2 : i < ys.length := hl ▸ hi
      refine aw_sr rfl ?_
      simp only [go_sem, reduceIte, Nat.reduceEqDiff, Nat.reduceAdd, Nat.reduceMul, Nat.reduceSub, Nat.reduceLeDiff, Nat.reduceLT, reduceCtorEq, getD_map hi, getD_map hi2, eBd_eq, cBd, eC, cV]
      refine ⟨⟨by omega, by omega, wid_map (g := (eBd s)) (fun _ => by simp [eBd_eq, cBd, eC, cV]) _⟩, fun b hb => ?_⟩
      refine aw_sr rfl ?_
      simp only [go_sem, reduceIte, Nat.reduceEqDiff, Nat.reduceAdd, Nat.reduceMul, Nat.reduceSub, Nat.reduceLeDiff, Nat.reduceLT, reduceCtorEq, getD_map hi, getD_map hi2, eBd_eq, cBd, eC, cV]
      refine ⟨⟨by omega, by omega, wid_map (g := eVal) (fun _ => by simp [eBd_eq, cBd, eC, cV]) _⟩, fun b2 hb2 => ?_⟩
      have hne : ¬ b2 = b := by intro e; subst e; rw [hget_cons, if_pos rfl] at hb2; cases hb2
      refine aw_sr rfl ?_
      simp only [go_sem, reduceIte, Nat.reduceEqDiff, Nat.reduceAdd, Nat.reduceMul, Nat.reduceSub, Nat.reduceLeDiff, Nat.reduceLT, reduceCtorEq, hget_cons, hne]
      have hq := hF _ (List.getElem_mem hi) _ (List.getElem_mem hi2)
      refine goA_on hq (fun b' o' h => hsub_at hb2 _ _ (hsub_at hb _ _ (hG _ _ h))) ?_
      simp only [go_sem, reduceIte, Nat.reduceEqDiff, Nat.reduceAdd, Nat.reduceMul, Nat.reduceSub, Nat.reduceLeDiff, Nat.reduceLT, reduceCtorEq]
      refine aw_if rfl (fun h => ?_) (fun h => ?_)
      · refine aw_sr rfl ?_
        simp only [go_sem, reduceIte, Nat.reduceEqDiff, Nat.reduceAdd, Nat.reduceMul, Nat.reduceSub, Nat.reduceLeDiff, Nat.reduceLT, reduceCtorEq]
        refine aw_ret ⟨trivial, _, rfl, ?_, fun b' o' h => hsub_at hb2 _ _ (hsub_at hb _ _ h)⟩
        rw [eqF, all_zip_not (q := fun p => f p.1 p.2) hi hi2 (by simpa using h), Bool.and_false]
        exact Vle.refl _
      · refine aw_skip ⟨(), all_zip_next (q := fun p => f p.1 p.2) he hi hi2 (by simpa using h), ?_, fun b' o' h => hsub_at hb2 _ _ (hsub_at hb _ _ h)⟩
        simp only [go_sem, reduceIte, Nat.reduceEqDiff, Nat.reduceAdd, Nat.reduceMul, Nat.reduceSub, Nat.reduceLeDiff, Nat.reduceLT, reduceCtorEq]
    · intro _ he
      refine hK2 _ _ ?_
      refine aw_sr rfl ?_
      simp only [go_sem, reduceIte, Nat.reduceEqDiff, Nat.reduceAdd, Nat.reduceMul, Nat.reduceSub, Nat.reduceLeDiff, Nat.reduceLT, reduceCtorEq]
      refine aw_ret ⟨trivial, _, rfl, ?_, fun _ _ h => h⟩
      rw [eqF, decide_eq_true hl, Bool.true_and]
      rw [List.take_length, hl, List.take_length] at he
      rw [he]
      exact Vle.refl _
/-- The kind of value of a type of a kind; 0: none. -/
def wantK (k : Int) : Int := if k = 1 then 2 else if k = 2 then 3 else if k = 3 then 4 else if k = 4 then 1 else if k = 6 then 5 else if k = 8 then 6 else if k = 9 then 8 else 0
def tblK : List (V × V) := [(.int .i64 1, .int .i64 2), (.int .i64 2, .int .i64 3), (.int .i64 3, .int .i64 4), (.int .i64 4, .int .i64 1), (.int .i64 6, .int .i64 5), (.int .i64 8, .int .i64 6), (.int .i64 9, .int .i64 8)]
theorem tblK_find (k : Int) : (∃ j, mfind (.int .i64 k) tblK 0 = some (some (j, .int .i64 (wantK k)))) ∨ (mfind (.int .i64 k) tblK 0 = some none ∧ wantK k = 0) := by
  unfold tblK wantK
  simp only [mfind, keyEq, if_true]
  by_cases h1 : k = 1
  · subst h1; exact .inl ⟨_, rfl⟩
  by_cases h2 : k = 2
  · subst h2; exact .inl ⟨_, rfl⟩
  by_cases h3 : k = 3
  · subst h3; exact .inl ⟨_, rfl⟩
  by_cases h4 : k = 4
  · subst h4; exact .inl ⟨_, rfl⟩
  by_cases h5 : k = 6
  · subst h5; exact .inl ⟨_, rfl⟩
  by_cases h6 : k = 8
  · subst h6; exact .inl ⟨_, rfl⟩
  by_cases h7 : k = 9
  · subst h7; exact .inl ⟨_, rfl⟩
  exact .inr (by simp [h1, h2, h3, h4, h5, h6, h7])
/-- The types of a value's parts. -/
def pickF (p : Prgm) (m : Typ × Scp) (text : List UInt8) : Option (List Typ × Scp) := if m.1.kind = 6 then partsF p m.2 m.1 text else if m.1.kind = 9 then some (m.1.args, m.2) else some ([], m.2)
/-- Is a value of a type? -/
def fitsF (p : Prgm) : Nat → Scp → Typ → Val → Bool
  | 0, _, _, _ => false
  | n + 1, s, t, v => if wantK (meantF s t).1.kind = 0 ∨ wantK (meantF s t).1.kind ≠ v.kind then false else match pickF p (meantF s t) v.text with
    | none => false
    | some (ts, s') => eqF (fun a u => fitsF p n s' a u) ts v.args
theorem partsF_ok {p : Prgm} {s : Scp} {t : Typ} {name : List UInt8} {ts : List Typ} {s' : Scp} (hp : o56 p.2.2.2.1) (hs : OkScp s) (ht : OkTyp t) (h : partsF p s t name = some (ts, s')) : OkScp s' ∧ ts.length ≤ bulk ∧ ∀ t ∈ ts, OkTyp t := by
  unfold partsF at h
  split at h
  · cases h
  rename_i d hd
  split at h
  · cases h
  rename_i m hm
  split at h
  · cases h
    have hdo := hp.2.2 d (List.mem_of_find?_eq_some hd)
    have hmo := (hdo.2.2.2.2 m (List.mem_of_find?_eq_some hm)).2
    refine ⟨fun f hf => ?_, hmo.len, hmo.2.2⟩
    rcases List.mem_cons.1 hf with rfl | hf
    · exact ⟨hdo.2.1.2.1, ht.len, fun a ha => ht.arg ha⟩
    · exact hs f hf
  · cases h
theorem q_fits1 (p : Prgm) (s : Scp) (a : Typ) (u : Val) (b : Nat) (x : Bool) (h : Quiet Try.prog 98 [.agg (cBd s a), .agg (cPrg p), .agg (cV u)] (.bool x)) :
    QuietOn Try.prog [(b, .vars (cPrg p))] 140 ([] ++ [.agg (cBd s a), .agg (cV u)] ++ [.ptr b 0]) (.bool x) := by
  refine QuietOn.weak fun G hG => ?_
  have hg : hget G b = some (.vars (cPrg p)) := hG _ _ (hget_self _ _ _)
  refine acall_body (rs := [.tmp 5]) Try.func140 rfl rfl Try.ntmps140 (by kernel_rfl) (Nat.le_of_ble_eq_true rfl) ?_
  refine aw_sr rfl ?_
  simp only [go_sem, reduceIte, Nat.reduceEqDiff, Nat.reduceAdd, Nat.reduceMul, Nat.reduceSub, Nat.reduceLeDiff, Nat.reduceLT, reduceCtorEq, cBd, cV]
  intro b3 hb3 b4 hb4
  obtain ⟨n43, hb4'⟩ := fresh_cons hb4
  have n3 : ¬ b3 = b := by intro e; subst e; rw [hg] at hb3; cases hb3
  have n4 : ¬ b4 = b := by intro e; subst e; rw [hg] at hb4'; cases hb4'
  refine aw_sr rfl ?_
  simp only [go_sem, reduceIte, Nat.reduceEqDiff, Nat.reduceAdd, Nat.reduceMul, Nat.reduceSub, Nat.reduceLeDiff, Nat.reduceLT, reduceCtorEq, n43, n3, n4, hg, e62]
  refine goA_q h ?_
  simp only [go_sem, reduceIte, Nat.reduceEqDiff, Nat.reduceAdd, Nat.reduceMul, Nat.reduceSub, Nat.reduceLeDiff, Nat.reduceLT, reduceCtorEq]
  exact aw_ret ⟨trivial, _, rfl, Vle.refl _, sub_fresh hb4' (sub_tail hb3)⟩
theorem q_fits (p : Prgm) (hp : o56 p.2.2.2.1) : ∀ (n : Nat) (s : Scp) (t : Typ) (v : Val), v.sz ≤ n → OkScp s → OkTyp t → OkVal v → Quiet Try.prog 98 [.agg (cBd s t), .agg (cPrg p), .agg (cV v)] (.bool (fitsF p n s t v)) := by
  intro n
  induction n with
  | zero => intro s t v h; have := v.sz_eq; omega
  | succ n ih =>
  intro s t v hn hs ht hv
  refine Quiet.weak fun G => ?_
  obtain ⟨mo1, mo2⟩ := meantF_ok hs ht
  have hvl : v.args.length ≤ 1048576 := hv.len
  refine acall_body (rs := [.tmp 6]) Try.func98 rfl rfl Try.ntmps98 (by kernel_rfl) (Nat.le_of_ble_eq_true rfl) ?_
  refine aw_sr rfl ?_
  simp only [go_sem, reduceIte, Nat.reduceEqDiff, Nat.reduceAdd, Nat.reduceMul, Nat.reduceSub, Nat.reduceLeDiff, Nat.reduceLT, reduceCtorEq]
  intro b3 hb3 b4 hb4 b5 hb5
  obtain ⟨n43, hb4'⟩ := fresh_cons hb4
  obtain ⟨n54, hx⟩ := fresh_cons hb5
  obtain ⟨n53, hb5'⟩ := fresh_cons hx
  have n45 : ¬ b4 = b5 := fun e => n54 e.symm
  have n35 : ¬ b3 = b5 := fun e => n53 e.symm
  have n34 : ¬ b3 = b4 := fun e => n43 e.symm
  refine aw_sr rfl ?_
  simp only [go_sem, reduceIte, Nat.reduceEqDiff, Nat.reduceAdd, Nat.reduceMul, Nat.reduceSub, Nat.reduceLeDiff, Nat.reduceLT, reduceCtorEq, n53, n43, n54]
  refine goA_q (q_at s t hs) ?_
  rw [fitsF]
  generalize hm : meantF s t = m at mo1 mo2
  obtain ⟨t', s'⟩ := m
  simp only [go_sem, reduceIte, Nat.reduceEqDiff, Nat.reduceAdd, Nat.reduceMul, Nat.reduceSub, Nat.reduceLeDiff, Nat.reduceLT, reduceCtorEq, n53, n43, n54, eBd_eq, cBd]
  obtain ⟨B, hB⟩ : ∃ B, B = (b5, AObj.vars (cV v)) :: (b4, .vars (cPrg p)) :: (b3, .vars (cBd s' t')) :: G := ⟨_, rfl⟩
  have hB0 : Sub B ((b5, AObj.vars (cV v)) :: (b4, .vars (cPrg p)) :: (b3, .vars (cBd s' t')) :: G) := by rw [hB]; exact sub_rfl
  refine AW.of_hsub hB0 ?_
  have hsB : Sub G B := by rw [hB]; exact sub_fresh hb5' (sub_fresh hb4' (sub_tail hb3))
  have h5 : hget B b5 = some (.vars (cV v)) := by rw [hB, hget_self]
  have h4 : hget B b4 = some (.vars (cPrg p)) := by rw [hB, hget_cons_ne n54, hget_self]
  have h3 : hget B b3 = some (.vars (cBd s' t')) := by rw [hB, hget_cons_ne n53, hget_cons_ne n43, hget_self]
  clear hB hB0
  simp only at mo1 mo2 ⊢
  have f0 : mfind (.int .i64 1) [] 0 = some none := rfl
  have f1 : mfind (.int .i64 2) [(.int .i64 1, .int .i64 2)] 0 = some none := rfl
  have f2 : mfind (.int .i64 3) [(.int .i64 1, .int .i64 2), (.int .i64 2, .int .i64 3)] 0 = some none := rfl
  have f3 : mfind (.int .i64 4) [(.int .i64 1, .int .i64 2), (.int .i64 2, .int .i64 3), (.int .i64 3, .int .i64 4)] 0 = some none := rfl
  have f4 : mfind (.int .i64 6) [(.int .i64 1, .int .i64 2), (.int .i64 2, .int .i64 3), (.int .i64 3, .int .i64 4), (.int .i64 4, .int .i64 1)] 0 = some none := rfl
  have f5 : mfind (.int .i64 8) [(.int .i64 1, .int .i64 2), (.int .i64 2, .int .i64 3), (.int .i64 3, .int .i64 4), (.int .i64 4, .int .i64 1), (.int .i64 6, .int .i64 5)] 0 = some none := rfl
  have f6 : mfind (.int .i64 9) [(.int .i64 1, .int .i64 2), (.int .i64 2, .int .i64 3), (.int .i64 3, .int .i64 4), (.int .i64 4, .int .i64 1), (.int .i64 6, .int .i64 5), (.int .i64 8, .int .i64 6)] 0 = some none := rfl
  have htf := tblK_find t'.kind
  unfold tblK at htf
  have hwk : ∃ x, mfind (.int .i64 t'.kind) [(.int .i64 1, .int .i64 2), (.int .i64 2, .int .i64 3), (.int .i64 3, .int .i64 4), (.int .i64 4, .int .i64 1), (.int .i64 6, .int .i64 5), (.int .i64 8, .int .i64 6), (.int .i64 9, .int .i64 8)] 0 = some x ∧ (match x with | some (_, y) => y | none => V.int .i64 0) = .int .i64 (wantK t'.kind) := by
    rcases htf with ⟨j, e⟩ | ⟨e1, e2⟩
    · exact ⟨_, e, rfl⟩
    · exact ⟨_, e1, by rw [e2]⟩
  obtain ⟨x, hx1, hx2⟩ := hwk
  refine aw_sr rfl ?_
  have hkk : (IntKind.i64 == IntKind.i64) = true := rfl
  simp only [go_sem, reduceIte, Nat.reduceEqDiff, Nat.reduceAdd, Nat.reduceMul, Nat.reduceSub, Nat.reduceLeDiff, Nat.reduceLT, reduceCtorEq, f0, f1, f2, f3, f4, f5, f6, hx1, mput, h3, cBd, hkk]
  intro bm hbm
  have nb : ¬ bm = b3 := by intro e; subst e; rw [h3] at hbm; cases hbm
  simp only [go_sem, reduceIte, Nat.reduceEqDiff, Nat.reduceAdd, Nat.reduceMul, Nat.reduceSub, Nat.reduceLeDiff, Nat.reduceLT, reduceCtorEq, f0, f1, f2, f3, f4, f5, f6, hx1, mput, h3, cBd, hkk, nb]
  refine Eq.mpr (goR_cg (x' := some (True, V.int .i64 (wantK t'.kind))) ?_) ?_
  · rcases x with _ | ⟨j, y⟩ <;> rw [← hx2]
  simp only [go_sem, reduceIte, Nat.reduceEqDiff, Nat.reduceAdd, Nat.reduceMul, Nat.reduceSub, Nat.reduceLeDiff, Nat.reduceLT, reduceCtorEq, h3, cBd]
  clear hx1 hx2 htf f0 f1 f2 f3 f4 f5 f6
  refine AW.of_hsub (sub_tail hbm) ?_
  refine aw_seq fun K1 hK1 => ?_
  refine aw_sr rfl ?_
  simp only [go_sem, reduceIte, Nat.reduceEqDiff, Nat.reduceAdd, Nat.reduceMul, Nat.reduceSub, Nat.reduceLeDiff, Nat.reduceLT, reduceCtorEq, h3, h4, h5, cBd, cV]
  refine aw_if rfl (fun h => ?_) (fun h => ?_)
  · refine aw_sr rfl ?_
    simp only [go_sem, reduceIte, Nat.reduceEqDiff, Nat.reduceAdd, Nat.reduceMul, Nat.reduceSub, Nat.reduceLeDiff, Nat.reduceLT, reduceCtorEq]
    refine aw_ret ⟨trivial, _, rfl, ?_, hsB⟩
    rw [if_pos (by simpa using h)]
    exact Vle.refl _
  have hwn : ¬ (wantK t'.kind = 0 ∨ wantK t'.kind ≠ v.kind) := by simpa using h
  refine aw_skip (hK1 _ _ ?_)
  refine aw_sr rfl ?_
  simp only [go_sem, reduceIte, Nat.reduceEqDiff, Nat.reduceAdd, Nat.reduceMul, Nat.reduceSub, Nat.reduceLeDiff, Nat.reduceLT, reduceCtorEq]
  refine aw_mid (fun f' G' => ∃ ts s2 nl tg, pickF p (t', s') v.text = some (ts, s2) ∧ OkScp s2 ∧ ts.length ≤ bulk ∧ (∀ a ∈ ts, OkTyp a) ∧ FSub [(8, .sl (ts.map (eBd s2)) nl tg), (4, .ptr b4 0), (5, .ptr b5 0)] f' ∧ Sub B G') ?_ ?_
  · refine aw_sr rfl ?_
    simp only [go_sem, reduceIte, Nat.reduceEqDiff, Nat.reduceAdd, Nat.reduceMul, Nat.reduceSub, Nat.reduceLeDiff, Nat.reduceLT, reduceCtorEq, h3, cBd]
    refine aw_block ?_  -- 0
    refine aw_sr rfl ?_
    simp only [go_sem, reduceIte, Nat.reduceEqDiff, Nat.reduceAdd, Nat.reduceMul, Nat.reduceSub, Nat.reduceLeDiff, Nat.reduceLT, reduceCtorEq]
    refine aw_if rfl (fun h => ?_) (fun h => ?_)
    · have hk : t'.kind = 6 := by simpa using h
      refine aw_sr rfl ?_
      simp only [go_sem, reduceIte, Nat.reduceEqDiff, Nat.reduceAdd, Nat.reduceMul, Nat.reduceSub, Nat.reduceLeDiff, Nat.reduceLT, reduceCtorEq, h3, h4, h5, cBd, cV, e62]
      refine goA_q (q_parts p s' t' v.text hp mo1) ?_
      cases hpf : partsF p s' t' v.text with
      | none =>
        have hpk : pickF p (t', s') v.text = none := by rw [pickF, if_pos hk, hpf]
        simp only [go_sem, reduceIte, Nat.reduceEqDiff, Nat.reduceAdd, Nat.reduceMul, Nat.reduceSub, Nat.reduceLeDiff, Nat.reduceLT, reduceCtorEq, partsV]
        refine aw_seq fun K2 hK2 => ?_
        refine aw_sr rfl ?_
        simp only [go_sem, reduceIte, Nat.reduceEqDiff, Nat.reduceAdd, Nat.reduceMul, Nat.reduceSub, Nat.reduceLeDiff, Nat.reduceLT, reduceCtorEq]
        refine aw_if rfl (fun h => ?_) (fun h => by cases h)
        refine aw_sr rfl ?_
        simp only [go_sem, reduceIte, Nat.reduceEqDiff, Nat.reduceAdd, Nat.reduceMul, Nat.reduceSub, Nat.reduceLeDiff, Nat.reduceLT, reduceCtorEq]
        refine aw_ret ⟨trivial, _, rfl, ?_, hsB⟩
        rw [if_neg hwn, hpk]
        exact Vle.refl _
      | some pr =>
        obtain ⟨ts, s2⟩ := pr
        obtain ⟨q1, q2, q3⟩ := partsF_ok hp mo2 mo1 hpf
        have hpk : pickF p (t', s') v.text = some (ts, s2) := by rw [pickF, if_pos hk, hpf]
        simp only [go_sem, reduceIte, Nat.reduceEqDiff, Nat.reduceAdd, Nat.reduceMul, Nat.reduceSub, Nat.reduceLeDiff, Nat.reduceLT, reduceCtorEq, partsV]
        refine aw_seq fun K2 hK2 => ?_
        refine aw_sr rfl ?_
        simp only [go_sem, reduceIte, Nat.reduceEqDiff, Nat.reduceAdd, Nat.reduceMul, Nat.reduceSub, Nat.reduceLeDiff, Nat.reduceLT, reduceCtorEq]
        refine aw_if rfl (fun h => by cases h) (fun h => ?_)
        refine aw_skip (hK2 _ _ ?_)
        refine aw_rg rfl ?_
        simp only [go_sem, reduceIte, Nat.reduceEqDiff, Nat.reduceAdd, Nat.reduceMul, Nat.reduceSub, Nat.reduceLeDiff, Nat.reduceLT, reduceCtorEq]
        refine ⟨ts, s2, _, _, hpk, q1, q2, q3, ⟨rfl, rfl, rfl⟩, sub_rfl⟩
    · have hk : ¬ t'.kind = 6 := by simpa using h
      refine aw_sr rfl ?_
      simp only [go_sem, reduceIte, Nat.reduceEqDiff, Nat.reduceAdd, Nat.reduceMul, Nat.reduceSub, Nat.reduceLeDiff, Nat.reduceLT, reduceCtorEq]
      refine aw_if rfl (fun h => ?_) (fun h => ?_)
      · have hk9 : t'.kind = 9 := by simpa using h
        have hpk : pickF p (t', s') v.text = some (t'.args, s') := by rw [pickF, if_neg hk, if_pos hk9]
        have htl : t'.args.length ≤ 1048576 := mo1.len
        refine aw_sr rfl ?_
        simp only [go_sem, reduceIte, Nat.reduceEqDiff, Nat.reduceAdd, Nat.reduceMul, Nat.reduceSub, Nat.reduceLeDiff, Nat.reduceLT, reduceCtorEq, h3, cBd]
        refine aw_range t'.args.length (S := Bool × Tag × Heap) (fun j s'' => [(49, .sl (t'.args.map eTyp) t'.nl .no), (8, .sl ((t'.args.take j).map (eBd s')) s''.1 s''.2.1), (3, .ptr b3 0), (4, .ptr b4 0), (5, .ptr b5 0)]) (fun _ s'' => s''.2.2) (fun j s'' => Room B 5 s''.2.1 s''.2.2) (true, .full, B) (by omega) ?_ (fun _ _ h => h) (Room.start B 5) rfl (fun _ _ => rfl) ?_ ?_ (by decide)
        · simp only [go_sem, reduceIte, Nat.reduceEqDiff, Nat.reduceAdd, Nat.reduceMul, Nat.reduceSub, Nat.reduceLeDiff, Nat.reduceLT, reduceCtorEq, Int.natCast_zero, List.take_zero, List.map_nil]
        · intro j ⟨nl, tg, H⟩ hj j2
          simp only at j2 ⊢
          generalize ha : t'.args[j] = a
          refine aw_sr rfl ?_
          simp only [go_sem, reduceIte, Nat.reduceEqDiff, Nat.reduceAdd, Nat.reduceMul, Nat.reduceSub, Nat.reduceLeDiff, Nat.reduceLT, reduceCtorEq, getD_map hj, ha, eTyp_eq, cTyp]
          refine ⟨⟨by omega, by omega, wid_eTyp _⟩, fun b14 hb14 => ?_⟩
          obtain ⟨H2, hr2, hs2⟩ := j2.push (o := .vars (cTyp a)) hb14
          refine AW.of_hsub hs2 ?_
          have hg14 : hget H2 b14 = some (.vars (cTyp a)) := hr2.sub _ _ (hget_self _ _ _)
          have hg3 : hget H2 b3 = some (.vars (cBd s' t')) := hr2.sub _ _ (sub_tail (j2.sub_none hb14) _ _ h3)
          refine aw_rg rfl ?_
          simp only [go_sem, reduceIte, Nat.reduceEqDiff, Nat.reduceAdd, Nat.reduceMul, Nat.reduceSub, Nat.reduceLeDiff, Nat.reduceLT, reduceCtorEq, hg14, hg3, cTyp, cBd]
          refine goP_room hr2 ⟨rfl, rfl, by decide, wid_eBd _ _, ?_, ?_, by simp; omega, by simp; omega⟩ fun t5 H5 hr5 => ?_
          · have := wid_eBd s' [a]; rw [List.map_cons, eBd_eq] at this; exact this
          · have := sca_eBd s' [a]; rw [List.map_cons, eBd_eq] at this; exact this
          simp only [go_sem, reduceIte, Nat.reduceEqDiff, Nat.reduceAdd, Nat.reduceMul, Nat.reduceSub, Nat.reduceLeDiff, Nat.reduceLT, reduceCtorEq]
          obtain ⟨H6, hr6, hs6⟩ := hr5.pop (j2.sub_none hb14)
          have ht : t'.args.take (j + 1) = t'.args.take j ++ [a] := by rw [List.take_add_one, List.getElem?_eq_getElem hj, ha]; rfl
          refine ⟨(false, t5, H6), hr6, ?_, hs6⟩
          simp only [go_sem, reduceIte, Nat.reduceEqDiff, Nat.reduceAdd, Nat.reduceMul, Nat.reduceSub, Nat.reduceLeDiff, Nat.reduceLT, reduceCtorEq, ht, List.map_append, List.map_cons, List.map_nil, eBd_eq, cBd, Bool.and_false]
        intro ⟨nl, tg, H⟩ j2
        simp only at j2 ⊢
        rw [List.take_length]
        exact ⟨t'.args, s', nl, tg, hpk, mo2, mo1.len, fun a ha => mo1.arg ha, ⟨rfl, rfl, rfl⟩, j2.sub⟩
      · have hk9 : ¬ t'.kind = 9 := by simpa using h
        have hpk : pickF p (t', s') v.text = some ([], s') := by rw [pickF, if_neg hk, if_neg hk9]
        exact aw_skip ⟨[], s', true, .full, hpk, mo2, by simp, by simp, ⟨rfl, rfl, rfl⟩, sub_rfl⟩
  · intro f' G' ⟨ts, s2, nl, tg, hpk, q1, q2, q3, hf, hg⟩
    refine AW.of_fsub hf ?_
    refine aw_sr rfl ?_
    simp only [go_sem, reduceIte, Nat.reduceEqDiff, Nat.reduceAdd, Nat.reduceMul, Nat.reduceSub, Nat.reduceLeDiff, Nat.reduceLT, reduceCtorEq, hg _ _ h5, cV]
    refine goA_on (q_EqualFuncB s2 [(b4, .vars (cPrg p))] 140 [] [.ptr b4 0] (fun a u => fitsF p n s2 a u) ts v.args nl v.nl tg .no (le_bulk q2) fun a ha u hu => q_fits1 p s2 a u b4 _ (ih s2 a u (by have := Val.sz_args hu; omega) q1 (q3 a ha) (hv.arg hu))) (sub_one (hg _ _ h4)) ?_
    simp only [go_sem, reduceIte, Nat.reduceEqDiff, Nat.reduceAdd, Nat.reduceMul, Nat.reduceSub, Nat.reduceLeDiff, Nat.reduceLT, reduceCtorEq]
    refine aw_ret ⟨trivial, _, rfl, ?_, sub_trans hsB hg⟩
    rw [if_neg hwn, hpk]
    exact Vle.refl _
end Go.Proofs.Ytomjghlaoncpbaa
