import Derived.Test.YtomjghlaoncpbaaShapE
set_option linter.unusedSimpArgs false
set_option linter.unusedVariables false
namespace Go.Proofs.Ytomjghlaoncpbaa
open Go.Proofs.YtomjghlaoncpbaaV
set_option maxHeartbeats 400000
set_option maxRecDepth 100000
theorem ScpAt.form {G : Heap} {s : Scp} {x : V} (h : ScpAt G s x) : x = .nilp ∨ ∃ b, x = .ptr b 0 := by
  match s, h with
  | [], h => exact .inl h
  | (_, _) :: _, ⟨b, _, h, _⟩ => exact .inr ⟨b, h⟩
theorem wid_Val (vs : List Val) : wid 4 (vs.map eVal) := wid_map (g := eVal) (fun _ => by rw [eC]; rfl) _
/-- What is left to answer, once a type is known. -/
def restF (p : Prgm) (n : Nat) (m : Typ × Scp) (v : Val) : Bool := if wantK m.1.kind = 0 ∨ wantK m.1.kind ≠ v.kind then false else match pickF p m v.text with
    | none => false
    | some (ts, s') => eqF (fun a u => fitsF p n s' a u) ts v.args
theorem fitsF_succ (p : Prgm) (n : Nat) (s : Scp) (t : Typ) (v : Val) : fitsF p (n + 1) s t v = restF p n (meantF s t) v := rfl
theorem restF_leaf {p : Prgm} {n : Nat} {m : Typ × Scp} {v : Val} (h6 : ¬ m.1.kind = 6) (h9 : ¬ m.1.kind = 9) (h0 : wantK m.1.kind ≠ 0) : restF p n m v = (decide (v.kind = wantK m.1.kind) && decide ((v.args.length : Int) = 0)) := by
  unfold restF pickF
  rw [if_neg h6, if_neg h9]
  by_cases hv : v.kind = wantK m.1.kind
  · rw [if_neg (by rw [hv]; simpa using h0), decide_eq_true hv, Bool.true_and]
    have hz : (([] : List Typ).zip v.args).all (fun q => fitsF p n m.2 q.1 q.2) = true := rfl
    simp only [eqF, hz, Bool.and_true, List.length_nil]
    exact decide_eq_decide.2 (by omega)
  · rw [if_pos (.inr fun q => hv q.symm), decide_eq_false hv, Bool.false_and]
theorem restF_none {p : Prgm} {n : Nat} {m : Typ × Scp} {v : Val} (h0 : wantK m.1.kind = 0) : restF p n m v = false := by
  unfold restF; rw [if_pos (.inl h0)]
theorem restF_cell {p : Prgm} {n : Nat} {m : Typ × Scp} {v : Val} (h9 : m.1.kind = 9) : restF p n m v = if v.kind ≠ 8 then false else eqF (fun a u => fitsF p n m.2 a u) m.1.args v.args := by
  unfold restF pickF
  rw [h9]
  simp only [wantK]
  by_cases hv : v.kind = 8
  · rw [hv]; rfl
  · rw [if_pos (.inr fun q => hv q.symm), if_pos hv]
theorem restF_data {p : Prgm} {n : Nat} {m : Typ × Scp} {v : Val} (h6 : m.1.kind = 6) : restF p n m v = if v.kind ≠ 5 then false else match partsF p m.2 m.1 v.text with
    | none => false
    | some (ts, s') => eqF (fun a u => fitsF p n s' a u) ts v.args := by
  unfold restF pickF
  rw [h6]
  simp only [wantK]
  by_cases hv : v.kind = 5
  · rw [hv]; rfl
  · rw [if_pos (.inr fun q => hv q.symm), if_pos hv]
theorem a_fits (p : Prgm) (hp : o56 p.2.2.2.1) : ∀ (n : Nat) (s : Scp) (t : Typ) (v : Val) (x : V) (G : Heap), v.sz ≤ n → OkScp s → OkTyp t → OkVal v → ScpAt G s x →
    ACall Try.prog 101 [.agg (cPrg p), .agg (cTyp t), x, .agg (cV v)] (fun y G' => y = .bool (fitsF p n s t v) ∧ G' = G) G := by
  intro n
  induction n with
  | zero => intro s t v x G h; have := v.sz_eq; omega
  | succ n ih =>
  intro s t v x G hn hs ht hv hx
  refine ACall.weak (ACall.mono (Q := fun r G' => Vle r (.bool (fitsF p (n + 1) s t v)) ∧ Sub G G') ?_ (fun r G' ⟨h1, h3⟩ => ⟨_, G, h1, h3, rfl, rfl⟩))
  obtain ⟨mo1, mo2⟩ := meantF_ok hs ht
  have hvl : v.args.length ≤ 1048576 := hv.len
  have hpl : p.2.2.2.1.1.length ≤ 1048576 := hp.2.1
  refine acall_body (rs := [.tmp 8]) Try.func101 rfl rfl Try.ntmps101 (by kernel_rfl) (Nat.le_of_ble_eq_true rfl) ?_
  refine aw_sr rfl ?_
  simp only [go_sem, reduceIte, Nat.reduceEqDiff, Nat.reduceAdd, Nat.reduceMul, Nat.reduceSub, Nat.reduceLeDiff, Nat.reduceLT, reduceCtorEq]
  intro b4 hb4 b5 hb5 b7 hb7
  obtain ⟨n54, hb5'⟩ := fresh_cons hb5
  obtain ⟨n75, hq⟩ := fresh_cons hb7
  obtain ⟨n74, hb7'⟩ := fresh_cons hq
  have n45 : ¬ b4 = b5 := fun e => n54 e.symm
  have n57 : ¬ b5 = b7 := fun e => n75 e.symm
  have n47 : ¬ b4 = b7 := fun e => n74 e.symm
  have hsG : ∀ X Y Z, Sub G ((b7, X) :: (b5, Y) :: (b4, Z) :: G) := fun _ _ _ => sub_fresh hb7' (sub_fresh hb5' (sub_tail hb4))
  refine aw_sr rfl ?_
  simp only [go_sem, reduceIte, Nat.reduceEqDiff, Nat.reduceAdd, Nat.reduceMul, Nat.reduceSub, Nat.reduceLeDiff, Nat.reduceLT, reduceCtorEq, n75, n74, n54]
  refine goA_by (a_meant s t x G _ (hsG _ _ _) hs hx) fun r G1 hr => ?_
  obtain ⟨⟨x', rfl, hx'⟩, rfl⟩ := hr
  rw [fitsF_succ]
  generalize hm : meantF s t = m at mo1 mo2 hx'
  obtain ⟨t', s'⟩ := m
  simp only at mo1 mo2 hx' ⊢
  simp only [go_sem, reduceIte, Nat.reduceEqDiff, Nat.reduceAdd, Nat.reduceMul, Nat.reduceSub, Nat.reduceLeDiff, Nat.reduceLT, reduceCtorEq, n75, n74, n54, n57]
  obtain ⟨B, hB⟩ : ∃ B, B = (b7, AObj.vars (cV v)) :: (b5, .vars (cTyp t')) :: (b4, .vars (cPrg p)) :: G := ⟨_, rfl⟩
  have hB0 : Sub B ((b7, AObj.vars (cV v)) :: (b5, .vars (cTyp t')) :: (b4, .vars (cPrg p)) :: G) := by rw [hB]; exact sub_rfl
  refine AW.of_hsub hB0 ?_
  have hsB : Sub G B := by rw [hB]; exact hsG _ _ _
  have h7 : hget B b7 = some (.vars (cV v)) := by rw [hB, hget_self]
  have h5 : hget B b5 = some (.vars (cTyp t')) := by rw [hB, hget_cons_ne n75, hget_self]
  have h4 : hget B b4 = some (.vars (cPrg p)) := by rw [hB, hget_cons_ne n74, hget_cons_ne n54, hget_self]
  clear hB hB0
  have hxB : ScpAt B s' x' := hx'.sub hsB
  have htl : t'.args.length ≤ 1048576 := mo1.len
  generalize hE : restF p n (t', s') v = E
  refine aw_mid (fun f' G' => Sub B G' ∧ E = false) ?_ ?_
  case refine_2 =>
    intro f' G' ⟨hg, he⟩
    refine aw_sr rfl ?_
    simp only [go_sem, reduceIte, Nat.reduceEqDiff, Nat.reduceAdd, Nat.reduceMul, Nat.reduceSub, Nat.reduceLeDiff, Nat.reduceLT, reduceCtorEq]
    refine aw_ret ⟨trivial, _, rfl, ?_, sub_trans hsB hg⟩
    rw [he]; exact Vle.refl _
  refine aw_sr rfl ?_
  simp only [go_sem, reduceIte, Nat.reduceEqDiff, Nat.reduceAdd, Nat.reduceMul, Nat.reduceSub, Nat.reduceLeDiff, Nat.reduceLT, reduceCtorEq, h5, cTyp]
  refine aw_block ?_  -- 0
  refine aw_mid (fun f' G' => ∃ c, (c = true ↔ (t'.kind = 1 ∨ t'.kind = 2 ∨ t'.kind = 3 ∨ t'.kind = 4)) ∧ FSub [(24, .bool c), (23, .int .i64 t'.kind), (2, x'), (4, .ptr b4 0), (5, .ptr b5 0), (7, .ptr b7 0)] f' ∧ G' = B) ?_ ?_
  · -- 4 ways
    refine aw_sr rfl ?_
    simp only [go_sem, reduceIte, Nat.reduceEqDiff, Nat.reduceAdd, Nat.reduceMul, Nat.reduceSub, Nat.reduceLeDiff, Nat.reduceLT, reduceCtorEq]
    refine aw_if rfl (fun h => ?_) (fun h => ?_)
    · exact aw_skip ⟨decide (t'.kind = 1), by have : t'.kind = 1 := by simpa using h
                                              simp [this], ⟨rfl, rfl, rfl, rfl, rfl, rfl⟩, rfl⟩
    have k1 : ¬ t'.kind = 1 := by simpa using h
    refine aw_sr rfl ?_
    simp only [go_sem, reduceIte, Nat.reduceEqDiff, Nat.reduceAdd, Nat.reduceMul, Nat.reduceSub, Nat.reduceLeDiff, Nat.reduceLT, reduceCtorEq]
    refine aw_if rfl (fun h => ?_) (fun h => ?_)
    · exact aw_skip ⟨decide (t'.kind = 2), by have : t'.kind = 2 := by simpa using h
                                              simp [this], ⟨rfl, rfl, rfl, rfl, rfl, rfl⟩, rfl⟩
    have k2 : ¬ t'.kind = 2 := by simpa using h
    refine aw_sr rfl ?_
    simp only [go_sem, reduceIte, Nat.reduceEqDiff, Nat.reduceAdd, Nat.reduceMul, Nat.reduceSub, Nat.reduceLeDiff, Nat.reduceLT, reduceCtorEq]
    refine aw_if rfl (fun h => ?_) (fun h => ?_)
    · exact aw_skip ⟨decide (t'.kind = 3), by have : t'.kind = 3 := by simpa using h
                                              simp [this], ⟨rfl, rfl, rfl, rfl, rfl, rfl⟩, rfl⟩
    have k3 : ¬ t'.kind = 3 := by simpa using h
    refine aw_rg rfl ?_
    simp only [go_sem, reduceIte, Nat.reduceEqDiff, Nat.reduceAdd, Nat.reduceMul, Nat.reduceSub, Nat.reduceLeDiff, Nat.reduceLT, reduceCtorEq]
    exact ⟨decide (t'.kind = 4), by simp [k1, k2, k3], ⟨rfl, rfl, rfl, rfl, rfl, rfl⟩, rfl⟩
  intro f' G' ⟨c, hc, hf, hg⟩
  rw [hg]
  refine AW.of_fsub hf ?_
  refine aw_if rfl (fun h => ?_) (fun h => ?_)
  · refine aw_srd [(0,true),(1,true),(2,true),(3,true),(4,true),(5,true),(6,true),(7,true),(8,true),(9,true),(10,true),(11,true),(12,true),(13,true),(14,true)] mixed rfl (by kernel_rfl) ?_
    have hks := hc.1 h
    have hl : ∃ w : Int, ([[V.int .i64 0], [V.int .i64 2], [V.int .i64 3], [V.int .i64 4], [V.int .i64 1]] : List (List V)).getD t'.kind.toNat [] = [.int .i64 w] ∧ w = wantK t'.kind ∧ w ≠ 0 ∧ 0 ≤ t'.kind ∧ t'.kind < 5 ∧ ¬ t'.kind = 6 ∧ ¬ t'.kind = 9 := by
      rcases hks with q | q | q | q <;> rw [q] <;> exact ⟨_, rfl, rfl, by decide, by decide, by decide, by decide, by decide⟩
    obtain ⟨w, hw1, hw2, hw3, hw4, hw5, hw6, hw9⟩ := hl
    simp only [go_sem, reduceIte, Nat.reduceEqDiff, Nat.reduceAdd, Nat.reduceMul, Nat.reduceSub, Nat.reduceLeDiff, Nat.reduceLT, reduceCtorEq, h7, h5, cV, cTyp, hw1]
    refine ⟨⟨hw4, by omega, by simp [wid]⟩, ?_⟩
    refine aw_ret ⟨trivial, _, rfl, ?_, hsB⟩
    rw [← hE, restF_leaf hw6 hw9 (by rw [← hw2]; exact hw3), ← hw2]
    exact Vle.refl _
  have hnk : ¬ (t'.kind = 1 ∨ t'.kind = 2 ∨ t'.kind = 3 ∨ t'.kind = 4) := fun q => by rw [hc.2 q] at h; cases h
  refine aw_sr rfl ?_
  simp only [go_sem, reduceIte, Nat.reduceEqDiff, Nat.reduceAdd, Nat.reduceMul, Nat.reduceSub, Nat.reduceLeDiff, Nat.reduceLT, reduceCtorEq]
  refine aw_if rfl (fun h => ?_) (fun h => ?_)
  · have hk8 : t'.kind = 8 := by simpa using h
    refine aw_sr rfl ?_
    simp only [go_sem, reduceIte, Nat.reduceEqDiff, Nat.reduceAdd, Nat.reduceMul, Nat.reduceSub, Nat.reduceLeDiff, Nat.reduceLT, reduceCtorEq, h7, cV]
    refine aw_ret ⟨trivial, _, rfl, ?_, hsB⟩
    rw [← hE, restF_leaf (by simp only [hk8]; decide) (by simp only [hk8]; decide) (by simp only [hk8]; decide)]
    simp only [hk8]
    exact Vle.refl _
  have k8 : ¬ t'.kind = 8 := by simpa using h
  refine aw_sr rfl ?_
  simp only [go_sem, reduceIte, Nat.reduceEqDiff, Nat.reduceAdd, Nat.reduceMul, Nat.reduceSub, Nat.reduceLeDiff, Nat.reduceLT, reduceCtorEq]
  refine aw_if rfl (fun h => ?_) (fun h => ?_)
  · have k9 : t'.kind = 9 := by simpa using h
    rw [restF_cell (m := (t', s')) k9] at hE
    refine aw_seq fun K1 hK1 => ?_
    refine aw_sr rfl ?_
    simp only [go_sem, reduceIte, Nat.reduceEqDiff, Nat.reduceAdd, Nat.reduceMul, Nat.reduceSub, Nat.reduceLeDiff, Nat.reduceLT, reduceCtorEq, h7, h5, cV, cTyp]
    refine aw_if rfl (fun h => ?_) (fun h => ?_)
    · refine aw_sr rfl ?_
      simp only [go_sem, reduceIte, Nat.reduceEqDiff, Nat.reduceAdd, Nat.reduceMul, Nat.reduceSub, Nat.reduceLeDiff, Nat.reduceLT, reduceCtorEq]
      refine aw_ret ⟨trivial, _, rfl, ?_, hsB⟩
      have : E = false := by
        rw [← hE]
        by_cases hv8 : v.kind = 8
        · rw [if_neg (by simpa using hv8), eqF, decide_eq_false, Bool.false_and]
          simp only [hv8] at h
          intro q
          simp [q] at h
        · rw [if_pos hv8]
      rw [this]; exact Vle.refl _
    have hv8 : v.kind = 8 ∧ v.args.length = t'.args.length := by
      simp only [Bool.or_eq_false_iff, decide_eq_false_iff_not, Decidable.not_not] at h
      omega
    obtain ⟨hv8, hll⟩ := hv8
    rw [if_neg (by simpa using hv8)] at hE
    refine aw_skip (hK1 _ _ ?_)
    refine aw_seq fun K2 hK2 => ?_
    refine aw_sr rfl ?_
    simp only [go_sem, reduceIte, Nat.reduceEqDiff, Nat.reduceAdd, Nat.reduceMul, Nat.reduceSub, Nat.reduceLeDiff, Nat.reduceLT, reduceCtorEq, h7, cV]
    refine aw_range v.args.length (S := Unit) (fun i _ => [(69, .sl (v.args.map eVal) v.nl .no), (2, x'), (4, .ptr b4 0), (5, .ptr b5 0)]) (fun _ _ => B) (fun i _ => ((t'.args.take i).zip (v.args.take i)).all (fun q => fitsF p n s' q.1 q.2) = true) () (by omega) ?_ (fun _ _ h => h) rfl rfl (fun _ _ => rfl) ?_ ?_ (by decide)
    · simp only [go_sem, reduceIte, Nat.reduceEqDiff, Nat.reduceAdd, Nat.reduceMul, Nat.reduceSub, Nat.reduceLeDiff, Nat.reduceLT, reduceCtorEq, Int.natCast_zero]
    · intro i _ hi he
      have hi2 : i < t'.args.length := by omega
      generalize hu : v.args[i] = u
      have hum : u ∈ v.args := by rw [← hu]; exact List.getElem_mem hi
      generalize ha : t'.args[i] = a
      have ham : a ∈ t'.args := by rw [← ha]; exact List.getElem_mem hi2
      refine aw_sr rfl ?_
      simp only [go_sem, reduceIte, Nat.reduceEqDiff, Nat.reduceAdd, Nat.reduceMul, Nat.reduceSub, Nat.reduceLeDiff, Nat.reduceLT, reduceCtorEq, getD_map hi, hu, eC, cV]
      refine ⟨⟨by omega, by omega, wid_Val _⟩, fun b10 hb10 => ?_⟩
      have h4' : hget ((b10, AObj.vars (cV u)) :: B) b4 = some (.vars (cPrg p)) := sub_tail hb10 _ _ h4
      have h5' : hget ((b10, AObj.vars (cV u)) :: B) b5 = some (.vars (cTyp t')) := sub_tail hb10 _ _ h5
      have h10' : hget ((b10, AObj.vars (cV u)) :: B) b10 = some (.vars (cV u)) := hget_self _ _ _
      have hx2 : ScpAt ((b10, AObj.vars (cV u)) :: B) s' x' := hxB.sub (sub_tail hb10)
      obtain ⟨C, hC⟩ : ∃ C, C = (b10, AObj.vars (cV u)) :: B := ⟨_, rfl⟩
      have hC0 : Sub C ((b10, AObj.vars (cV u)) :: B) := by rw [hC]; exact sub_rfl
      have hC1 : Sub B C := by rw [hC]; exact sub_tail hb10
      rw [← hC] at h4' h5' h10' hx2
      refine AW.of_hsub hC0 ?_
      clear hC hC0
      refine aw_srdC [(0,true),(1,true),(2,true),(3,true),(4,true),(5,true),(6,true),(7,true),(8,false),(9,true)] mixed rfl (by kernel_rfl) ?_
      simp only [go_sem, reduceIte, Nat.reduceEqDiff, Nat.reduceAdd, Nat.reduceMul, Nat.reduceSub, Nat.reduceLeDiff, Nat.reduceLT, reduceCtorEq, h4', h5', h10', cV, cTyp, getD_map hi2, ha, eTyp_eq, e62]
      refine ⟨⟨by omega, by omega, wid_eTyp _⟩, ?_⟩
      refine goA_by (ih s' a u x' C (by have := Val.sz_args hum; omega) mo2 (mo1.arg ham) (hv.arg hum) hx2) fun y G2 hy => ?_
      obtain ⟨rfl, rfl⟩ := hy
      simp only [go_sem, reduceIte, Nat.reduceEqDiff, Nat.reduceAdd, Nat.reduceMul, Nat.reduceSub, Nat.reduceLeDiff, Nat.reduceLT, reduceCtorEq]
      refine aw_if rfl (fun h => ?_) (fun h => ?_)
      · have hf : fitsF p n s' t'.args[i] v.args[i] = false := by rw [ha, hu]; simpa using h
        refine aw_sr rfl ?_
        simp only [go_sem, reduceIte, Nat.reduceEqDiff, Nat.reduceAdd, Nat.reduceMul, Nat.reduceSub, Nat.reduceLeDiff, Nat.reduceLT, reduceCtorEq]
        refine aw_ret ⟨trivial, _, rfl, ?_, sub_trans hsB hC1⟩
        rw [← hE, eqF, all_zip_not (q := fun q => fitsF p n s' q.1 q.2) hi2 hi hf, Bool.and_false]
        exact Vle.refl _
      · have hf : fitsF p n s' t'.args[i] v.args[i] = true := by rw [ha, hu]; simpa using h
        refine aw_skip ⟨(), all_zip_next (q := fun q => fitsF p n s' q.1 q.2) he hi2 hi hf, ?_, hC1⟩
        simp only [go_sem, reduceIte, Nat.reduceEqDiff, Nat.reduceAdd, Nat.reduceMul, Nat.reduceSub, Nat.reduceLeDiff, Nat.reduceLT, reduceCtorEq]
    · intro _ he
      refine hK2 _ _ ?_
      refine aw_sr rfl ?_
      simp only [go_sem, reduceIte, Nat.reduceEqDiff, Nat.reduceAdd, Nat.reduceMul, Nat.reduceSub, Nat.reduceLeDiff, Nat.reduceLT, reduceCtorEq]
      refine aw_ret ⟨trivial, _, rfl, ?_, hsB⟩
      rw [List.take_length, hll, List.take_length] at he
      rw [← hE, eqF, decide_eq_true hll.symm, he]
      exact Vle.refl _
  have k9 : ¬ t'.kind = 9 := by simpa using h
  refine aw_sr rfl ?_
  simp only [go_sem, reduceIte, Nat.reduceEqDiff, Nat.reduceAdd, Nat.reduceMul, Nat.reduceSub, Nat.reduceLeDiff, Nat.reduceLT, reduceCtorEq]
  refine aw_if rfl (fun h => ?_) (fun h => ?_)
  case refine_2 =>
    have k6 : ¬ t'.kind = 6 := by simpa using h
    refine aw_skip ⟨sub_rfl, ?_⟩
    rw [← hE, restF_none]
    simp only [not_or] at hnk
    simp [wantK, hnk, k8, k9, k6]
  have k6 : t'.kind = 6 := by simpa using h
  rw [restF_data (m := (t', s')) k6] at hE
  simp only at hE
  refine aw_sr rfl ?_
  simp only [go_sem, reduceIte, Nat.reduceEqDiff, Nat.reduceAdd, Nat.reduceMul, Nat.reduceSub, Nat.reduceLeDiff, Nat.reduceLT, reduceCtorEq, h4, h5, cTyp, e62]
  refine goA_q (q_dataOf p t'.name hp.2.1) ?_
  simp only [go_sem, reduceIte, Nat.reduceEqDiff, Nat.reduceAdd, Nat.reduceMul, Nat.reduceSub, Nat.reduceLeDiff, Nat.reduceLT, reduceCtorEq]
  refine aw_seq fun K3 hK3 => ?_
  refine aw_srd [(0,true),(1,true),(2,true),(3,true),(4,true),(5,true),(6,true),(7,true),(8,true),(9,true),(10,true),(11,true),(12,true),(13,true),(14,true),(15,true),(16,true),(17,true),(18,true),(19,true)] mixed rfl (by kernel_rfl) ?_
  rcases dataF_ix p t'.name with ⟨e1, e2⟩ | ⟨i, hi, e1, e2⟩
  · have hEf : E = false := by
      rw [← hE]
      have : partsF p s' t' v.text = none := by unfold partsF; rw [e1]
      rw [this]
      split <;> rfl
    rw [e2]
    have hneg : decide ((ixI none : Int) < 0) = true := rfl
    have hcs : (p.2.2.2.1.1.map eData).getD (ixI none).toNat [] = [] ∨ ∃ d0, (p.2.2.2.1.1.map eData).getD (ixI none).toNat [] = eData d0 := by
      cases p.2.2.2.1.1 with
      | nil => exact .inl rfl
      | cons d0 ds => exact .inr ⟨d0, rfl⟩
    rcases hcs with hcs | ⟨d0, hcs⟩
    · simp only [go_sem, reduceIte, Nat.reduceEqDiff, Nat.reduceAdd, Nat.reduceMul, Nat.reduceSub, Nat.reduceLeDiff, Nat.reduceLT, reduceCtorEq, h4, h5, h7, cTyp, cV, e62, hneg, hcs, not_true_eq_false, false_implies, true_and]
      refine aw_if (b := true) rfl (fun h => ?_) (fun h => by cases h)
      refine aw_sr rfl ?_
      simp only [go_sem, reduceIte, Nat.reduceEqDiff, Nat.reduceAdd, Nat.reduceMul, Nat.reduceSub, Nat.reduceLeDiff, Nat.reduceLT, reduceCtorEq]
      refine aw_ret ⟨trivial, _, rfl, ?_, hsB⟩
      rw [hEf]; exact Vle.refl _
    · simp only [go_sem, reduceIte, Nat.reduceEqDiff, Nat.reduceAdd, Nat.reduceMul, Nat.reduceSub, Nat.reduceLeDiff, Nat.reduceLT, reduceCtorEq, h4, h5, h7, cTyp, cV, e62, hneg, hcs, e175, not_true_eq_false, false_implies]
      refine aw_if (b := true) rfl (fun h => ?_) (fun h => by cases h)
      refine aw_sr rfl ?_
      simp only [go_sem, reduceIte, Nat.reduceEqDiff, Nat.reduceAdd, Nat.reduceMul, Nat.reduceSub, Nat.reduceLeDiff, Nat.reduceLT, reduceCtorEq]
      refine aw_ret ⟨trivial, _, rfl, ?_, hsB⟩
      rw [hEf]; exact Vle.refl _
  rw [e2]
  generalize hd : p.2.2.2.1.1[i] = d at e1
  have hdm : d ∈ p.2.2.2.1.1 := by rw [← hd]; exact List.getElem_mem hi
  have hdo := hp.2.2 d hdm
  have hml : d.2.2.1.length ≤ 1048576 := hdo.2.2.2.1
  have hneg : decide ((i : Int) < 0) = false := decide_eq_false (by omega)
  simp only [go_sem, reduceIte, Nat.reduceEqDiff, Nat.reduceAdd, Nat.reduceMul, Nat.reduceSub, Nat.reduceLeDiff, Nat.reduceLT, reduceCtorEq, h4, h5, h7, cTyp, cV, e62, ixI, hneg, getD_map hi, hd, e175]
  refine ⟨fun _ => ⟨by omega, by omega, wid_map (g := eData) (fun _ => rfl) _⟩, ?_⟩
  refine aw_if rfl (fun h => ?_) (fun h => ?_)
  · have hEf : E = false := by
      rw [← hE]
      by_cases hv5 : v.kind = 5
      · rw [if_neg (by simpa using hv5)]
        have hl : ¬ d.2.1.1.length = t'.args.length := by
          intro q
          simp [hv5, q] at h
        have : partsF p s' t' v.text = none := by
          unfold partsF
          rw [e1]
          simp only
          split
          · rfl
          · exact if_neg hl
        rw [this]
      · rw [if_pos hv5]
    refine aw_sr rfl ?_
    simp only [go_sem, reduceIte, Nat.reduceEqDiff, Nat.reduceAdd, Nat.reduceMul, Nat.reduceSub, Nat.reduceLeDiff, Nat.reduceLT, reduceCtorEq]
    refine aw_ret ⟨trivial, _, rfl, ?_, hsB⟩
    rw [hEf]; exact Vle.refl _
  have hv5 : v.kind = 5 ∧ d.2.1.1.length = t'.args.length := by
    simp only [Bool.or_eq_false_iff, decide_eq_false_iff_not, Decidable.not_not, Bool.or_false] at h
    omega
  obtain ⟨hv5, hpl2⟩ := hv5
  rw [if_neg (by simpa using hv5)] at hE
  have hpf : partsF p s' t' v.text = match d.2.2.1.find? (fun m => decide (m.1 = v.text)) with | none => none | some m => some (m.2.1, (d.2.1, (t'.args, t'.nl)) :: s') := by
    unfold partsF
    rw [e1]
    simp only
    cases d.2.2.1.find? (fun m => decide (m.1 = v.text)) with
    | none => rfl
    | some m => exact if_pos hpl2
  rw [hpf] at hE
  refine aw_skip (hK3 _ _ ?_)
  refine aw_sr rfl ?_
  simp only [go_sem, reduceIte, Nat.reduceEqDiff, Nat.reduceAdd, Nat.reduceMul, Nat.reduceSub, Nat.reduceLeDiff, Nat.reduceLT, reduceCtorEq, h4, e62, getD_map hi, hd, e175]
  refine ⟨⟨by omega, by omega, wid_map (g := eData) (fun _ => rfl) _⟩, ?_⟩
  refine aw_range d.2.2.1.length (S := Unit) (fun _ _ => [(118, .sl (d.2.2.1.map eMake) d.2.2.2 .no), (11, .int .i64 i), (2, x'), (4, .ptr b4 0), (5, .ptr b5 0), (7, .ptr b7 0)]) (fun _ _ => B) (fun j _ => ∀ k (hk : k < d.2.2.1.length), k < j → decide (d.2.2.1[k].1 = v.text) = false) () (by omega) ?_ (fun _ _ h => h) (fun j _ h => absurd h (by omega)) rfl (fun _ _ => rfl) ?_ ?_ (by decide)
  · simp only [go_sem, reduceIte, Nat.reduceEqDiff, Nat.reduceAdd, Nat.reduceMul, Nat.reduceSub, Nat.reduceLeDiff, Nat.reduceLT, reduceCtorEq, Int.natCast_zero]
  · intro j _ hj he
    generalize hm : d.2.2.1[j] = m
    have hmm : m ∈ d.2.2.1 := by rw [← hm]; exact List.getElem_mem hj
    have hmo := (hdo.2.2.2.2 m hmm).2
    have hmal : m.2.1.length ≤ 1048576 := hmo.len
    refine aw_sr rfl ?_
    simp only [go_sem, reduceIte, Nat.reduceEqDiff, Nat.reduceAdd, Nat.reduceMul, Nat.reduceSub, Nat.reduceLeDiff, Nat.reduceLT, reduceCtorEq, getD_map hj, hm, e177]
    refine ⟨⟨by omega, by omega, wid_map (g := eMake) (fun _ => rfl) _⟩, fun b13 hb13 => ?_⟩
    obtain ⟨C, hC⟩ : ∃ C, C = (b13, AObj.vars (eMake m)) :: B := ⟨_, rfl⟩
    have hC0 : Sub C ((b13, AObj.vars (eMake m)) :: B) := by rw [hC]; exact sub_rfl
    have hC1 : Sub B C := by rw [hC]; exact sub_tail hb13
    have c13 : hget C b13 = some (.vars (eMake m)) := by rw [hC]; exact hget_self _ _ _
    have c4 := hC1 _ _ h4
    have c5 := hC1 _ _ h5
    have c7 := hC1 _ _ h7
    have cx : ScpAt C s' x' := hxB.sub hC1
    refine AW.of_hsub hC0 ?_
    clear hC hC0
    refine aw_seq fun K4 hK4 => ?_
    refine aw_sr rfl ?_
    simp only [go_sem, reduceIte, Nat.reduceEqDiff, Nat.reduceAdd, Nat.reduceMul, Nat.reduceSub, Nat.reduceLeDiff, Nat.reduceLT, reduceCtorEq, c13, c7, e177, cV]
    refine aw_if rfl (fun h => ?_) (fun h => ?_)
    · have hne : ¬ m.1 = v.text := by simpa using h
      refine aw_exit ?_  -- 4
      refine ⟨(), fun k hk hlt => ?_, ?_, hC1⟩
      · by_cases e : k = j
        · subst e; rw [hm]; exact decide_eq_false hne
        · exact he k hk (by omega)
      simp only [go_sem, reduceIte, Nat.reduceEqDiff, Nat.reduceAdd, Nat.reduceMul, Nat.reduceSub, Nat.reduceLeDiff, Nat.reduceLT, reduceCtorEq]
    have heq : m.1 = v.text := by simpa using h
    have hfm : d.2.2.1.find? (fun m => decide (m.1 = v.text)) = some m := by
      refine List.find?_eq_some_iff_getElem.2 ⟨by simpa using heq, j, hj, hm, fun k hk => by simpa using he k (by omega) hk⟩
    rw [hfm] at hE
    simp only at hE
    refine aw_skip (hK4 _ _ ?_)
    refine aw_seq fun K5 hK5 => ?_
    refine aw_sr rfl ?_
    simp only [go_sem, reduceIte, Nat.reduceEqDiff, Nat.reduceAdd, Nat.reduceMul, Nat.reduceSub, Nat.reduceLeDiff, Nat.reduceLT, reduceCtorEq, c13, c7, e177, cV]
    refine aw_if rfl (fun h => ?_) (fun h => ?_)
    · have hl : ¬ m.2.1.length = v.args.length := by
        intro q; simp [q] at h
      refine aw_sr rfl ?_
      simp only [go_sem, reduceIte, Nat.reduceEqDiff, Nat.reduceAdd, Nat.reduceMul, Nat.reduceSub, Nat.reduceLeDiff, Nat.reduceLT, reduceCtorEq]
      refine aw_ret ⟨trivial, _, rfl, ?_, sub_trans hsB hC1⟩
      rw [← hE, eqF, decide_eq_false hl, Bool.false_and]; exact Vle.refl _
    have hl : m.2.1.length = v.args.length := by
      simp only [decide_eq_false_iff_not, Decidable.not_not] at h
      omega
    refine aw_skip (hK5 _ _ ?_)
    refine aw_seq fun K6 hK6 => ?_
    refine aw_sr rfl ?_
    simp only [go_sem, reduceIte, Nat.reduceEqDiff, Nat.reduceAdd, Nat.reduceMul, Nat.reduceSub, Nat.reduceLeDiff, Nat.reduceLT, reduceCtorEq, c7, cV]
    refine aw_range v.args.length (S := Unit) (fun _ _ => [(137, .sl (v.args.map eVal) v.nl .no), (11, .int .i64 i), (2, x'), (4, .ptr b4 0), (5, .ptr b5 0), (13, .ptr b13 0)]) (fun _ _ => C) (fun k _ => ((m.2.1.take k).zip (v.args.take k)).all (fun q => fitsF p n ((d.2.1, (t'.args, t'.nl)) :: s') q.1 q.2) = true) () (by omega) ?_ (fun _ _ h => h) rfl rfl (fun _ _ => rfl) ?_ ?_ (by decide)
    · simp only [go_sem, reduceIte, Nat.reduceEqDiff, Nat.reduceAdd, Nat.reduceMul, Nat.reduceSub, Nat.reduceLeDiff, Nat.reduceLT, reduceCtorEq, Int.natCast_zero]
    · intro k _ hk hz
      have hk2 : k < m.2.1.length := by omega
      generalize hu : v.args[k] = u
      have hum : u ∈ v.args := by rw [← hu]; exact List.getElem_mem hk
      generalize ha : m.2.1[k] = a
      have ham : a ∈ m.2.1 := by rw [← ha]; exact List.getElem_mem hk2
      refine aw_sr rfl ?_
      simp only [go_sem, reduceIte, Nat.reduceEqDiff, Nat.reduceAdd, Nat.reduceMul, Nat.reduceSub, Nat.reduceLeDiff, Nat.reduceLT, reduceCtorEq, getD_map hk, hu, eC, cV]
      refine ⟨⟨by omega, by omega, wid_Val _⟩, fun b15 hb15 => ?_⟩
      obtain ⟨D, hD⟩ : ∃ D, D = (b15, AObj.vars (cV u)) :: C := ⟨_, rfl⟩
      have hD0 : Sub D ((b15, AObj.vars (cV u)) :: C) := by rw [hD]; exact sub_rfl
      have hD1 : Sub C D := by rw [hD]; exact sub_tail hb15
      have d15 : hget D b15 = some (.vars (cV u)) := by rw [hD]; exact hget_self _ _ _
      have d13 := hD1 _ _ c13
      have d4 := hD1 _ _ c4
      have d5 := hD1 _ _ c5
      have dx : ScpAt D s' x' := cx.sub hD1
      refine AW.of_hsub hD0 ?_
      clear hD hD0
      refine aw_srdC [(0,true),(1,true),(2,true),(3,true),(4,true),(5,true),(6,true),(7,true),(8,true),(9,true),(10,true),(11,true),(12,true),(13,true),(14,true),(15,true),(17,true),(16,false),(18,false),(19,true)] mixed rfl (by kernel_rfl) ?_
      rcases dx.form with hxf | ⟨bx, hxf⟩
      all_goals
        subst hxf
        simp only [go_sem, reduceIte, Nat.reduceEqDiff, Nat.reduceAdd, Nat.reduceMul, Nat.reduceSub, Nat.reduceLeDiff, Nat.reduceLT, reduceCtorEq, d4, d5, d13, d15, cV, cTyp, getD_map hk2, ha, eTyp_eq, e62, e177, getD_map hi, hd, e175]
        refine ⟨⟨by omega, by omega, wid_eTyp _⟩, ⟨by omega, by omega, wid_map (g := eData) (fun _ => rfl) _⟩, fun b17 hb17 => ?_⟩
        refine goA_by (ih ((d.2.1, (t'.args, t'.nl)) :: s') a u (.ptr b17 0) _ (by have := Val.sz_args hum; omega) ?_ (hmo.mem ham).1 (hv.arg hum) ⟨b17, _, rfl, hget_self _ _ _, dx.sub (sub_tail hb17)⟩) fun y G2 hy => ?_
        · intro f hf
          rcases List.mem_cons.1 hf with rfl | hf
          · exact ⟨hdo.2.1.2.1, htl, fun t ht => mo1.arg ht⟩
          · exact mo2 f hf
        obtain ⟨rfl, rfl⟩ := hy
        simp only [go_sem, reduceIte, Nat.reduceEqDiff, Nat.reduceAdd, Nat.reduceMul, Nat.reduceSub, Nat.reduceLeDiff, Nat.reduceLT, reduceCtorEq]
        refine aw_if rfl (fun h => ?_) (fun h => ?_)
        · have hf : fitsF p n ((d.2.1, (t'.args, t'.nl)) :: s') m.2.1[k] v.args[k] = false := by rw [ha, hu]; simpa using h
          refine aw_sr rfl ?_
          simp only [go_sem, reduceIte, Nat.reduceEqDiff, Nat.reduceAdd, Nat.reduceMul, Nat.reduceSub, Nat.reduceLeDiff, Nat.reduceLT, reduceCtorEq]
          refine aw_ret ⟨trivial, _, rfl, ?_, sub_trans hsB (sub_trans hC1 (sub_trans hD1 (sub_tail hb17)))⟩
          rw [← hE, eqF, all_zip_not (q := fun q => fitsF p n ((d.2.1, (t'.args, t'.nl)) :: s') q.1 q.2) hk2 hk hf, Bool.and_false]
          exact Vle.refl _
        · have hf : fitsF p n ((d.2.1, (t'.args, t'.nl)) :: s') m.2.1[k] v.args[k] = true := by rw [ha, hu]; simpa using h
          refine aw_skip ⟨(), all_zip_next (q := fun q => fitsF p n ((d.2.1, (t'.args, t'.nl)) :: s') q.1 q.2) hz hk2 hk hf, ?_, sub_trans hD1 (sub_tail hb17)⟩
          simp only [go_sem, reduceIte, Nat.reduceEqDiff, Nat.reduceAdd, Nat.reduceMul, Nat.reduceSub, Nat.reduceLeDiff, Nat.reduceLT, reduceCtorEq]
    · intro _ hz
      refine hK6 _ _ ?_
      refine aw_sr rfl ?_
      simp only [go_sem, reduceIte, Nat.reduceEqDiff, Nat.reduceAdd, Nat.reduceMul, Nat.reduceSub, Nat.reduceLeDiff, Nat.reduceLT, reduceCtorEq]
      refine aw_ret ⟨trivial, _, rfl, ?_, sub_trans hsB hC1⟩
      rw [List.take_length, ← hl, List.take_length] at hz
      rw [← hE, eqF, decide_eq_true hl, hz]
      exact Vle.refl _
  · intro _ he
    have hfm : d.2.2.1.find? (fun m => decide (m.1 = v.text)) = none := List.find?_eq_none.2 fun m hm => by
      obtain ⟨k, hk, rfl⟩ := List.getElem_of_mem hm
      rw [he k hk hk]; simp
    rw [hfm] at hE
    exact ⟨sub_rfl, hE.symm⟩
end Go.Proofs.Ytomjghlaoncpbaa
