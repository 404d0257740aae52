import Derived.Test.YtomjghlaoncpbaaSolveN
import Derived.Test.YtomjghlaoncpbaaSolveJ
set_option linter.unusedSimpArgs false
set_option linter.unusedVariables false
namespace Go.Proofs.Ytomjghlaoncpbaa
open Go.Proofs.YtomjghlaoncpbaaV
set_option maxHeartbeats 400000
set_option maxRecDepth 100000
theorem less_trans : ∀ {a b c : List UInt8}, Op.bytesLess a b = true → Op.bytesLess b c = true → Op.bytesLess a c = true
  | [], [], _, h, _ => by simp [Op.bytesLess] at h
  | _ :: _, [], _, h, _ => by simp [Op.bytesLess] at h
  | _, _ :: _, [], _, h => by simp [Op.bytesLess] at h
  | [], _ :: _, _ :: _, _, _ => by simp [Op.bytesLess]
  | x :: a, y :: b, z :: c, h, k => by
    simp only [Op.bytesLess, Bool.or_eq_true, decide_eq_true_eq, Bool.and_eq_true, beq_iff_eq] at h k ⊢
    rcases h with h | ⟨rfl, h⟩
    · rcases k with k | ⟨rfl, k⟩
      · exact .inl (UInt8.lt_trans h k)
      · exact .inl h
    · rcases k with k | ⟨rfl, k⟩
      · exact .inl k
      · exact .inr ⟨rfl, less_trans h k⟩
theorem less_irrefl : ∀ a : List UInt8, Op.bytesLess a a = false
  | [] => rfl
  | x :: a => by
    simp [Op.bytesLess, less_irrefl a]
theorem less_total : ∀ a b : List UInt8, Op.bytesLess a b = true ∨ a = b ∨ Op.bytesLess b a = true
  | [], [] => .inr (.inl rfl)
  | [], _ :: _ => .inl (by simp [Op.bytesLess])
  | _ :: _, [] => .inr (.inr (by simp [Op.bytesLess]))
  | x :: a, y :: b => by
    simp only [Op.bytesLess, Bool.or_eq_true, decide_eq_true_eq, Bool.and_eq_true, beq_iff_eq]
    by_cases h1 : x < y
    · exact .inl (.inl h1)
    · by_cases h2 : y < x
      · exact .inr (.inr (.inl h2))
      · have : x = y := UInt8.toNat_inj.1 (by have g1 : ¬ x.toNat < y.toNat := h1; have g2 : ¬ y.toNat < x.toNat := h2; omega)
        subst this
        rcases less_total a b with h | h | h
        · exact .inl (.inr ⟨rfl, h⟩)
        · exact .inr (.inl (by rw [h]))
        · exact .inr (.inr (.inr ⟨rfl, h⟩))
/-- Names that stand in strict order behind a name. -/
def strictF : List UInt8 → List Pk → Bool
  | _, [] => true
  | last, p :: ps => !(Op.bytesLess p.1 last || decide (p.1 = last)) && strictF p.1 ps
def lastF (ps : List Pk) (i : Nat) : List UInt8 := if 0 < i then (ps.getD (i - 1) default).1 else []
theorem q_refRight (l : List Mo) (ln : Bool) (root : List Us) (rn : Bool) (ps : List Pk) (pn : Bool) (hll : l.length ≤ bulk) (hlo : ∀ m ∈ l, OkMo m) (hrl : root.length ≤ bulk) (hru : ∀ u ∈ root, (u.1.length : Int) ≤ 9223372036854775807) (hpl : ps.length ≤ bulk)
    (hc : Int) (hcq : Quiet Try.prog 57 [.sl (l.map eMo) ln .no] (.int .i64 hc))
    (h5 : hc = 0 → (∀ m ∈ l, m.2.2.1.length ≤ 5) ∧ (∀ m ∈ l, ∀ u ∈ m.2.2.1, 1 ≤ u.2.1) ∧ l.Pairwise fun a b => ¬ (a.1 = b.1 ∧ a.2.1 = b.2.1))
    (h6 : wantsF root = 0 → ∀ u ∈ root, 1 ≤ u.2.1) :
    Quiet Try.prog 88 [.sl (l.map eMo) ln .no, .sl (root.map eUse) rn .no, .sl (ps.map ePk) pn .no] (.bool (if hc ≠ 0 ∨ wantsF root ≠ 0 then false else
      if strictF [] ps = false then false else match runR (verP ps) l (root.length + 6 * ps.length + 1) root [] with | none => false | some seen => decide (seen.length = ps.length))) := by
  have hll' : l.length ≤ 1048576 := hll
  have hrl' : root.length ≤ 1048576 := hrl
  have hpl' : ps.length ≤ 1048576 := hpl
  refine Quiet.weak fun G => ?_
  refine acall_body (rs := [.tmp 6]) Try.func88 rfl rfl Try.ntmps88 (by kernel_rfl) (Nat.le_of_ble_eq_true rfl) ?_
  refine aw_sr rfl ?_
  simp only [go_sem, reduceIte, Nat.reduceEqDiff, Nat.reduceAdd, Nat.reduceMul, Nat.reduceSub, Nat.reduceLeDiff, Nat.reduceLT, reduceCtorEq]
  refine aw_seq fun K1 hK1 => ?_
  refine aw_sr rfl ?_
  simp only [go_sem, reduceIte, Nat.reduceEqDiff, Nat.reduceAdd, Nat.reduceMul, Nat.reduceSub, Nat.reduceLeDiff, Nat.reduceLT, reduceCtorEq]
  refine goA_q hcq ?_
  simp only [go_sem, reduceIte, Nat.reduceEqDiff, Nat.reduceAdd, Nat.reduceMul, Nat.reduceSub, Nat.reduceLeDiff, Nat.reduceLT, reduceCtorEq]
  refine goH_q (fun hg => q_UsesFault root rn .no hrl hru) ?_
  simp only [go_sem, reduceIte, Nat.reduceEqDiff, Nat.reduceAdd, Nat.reduceMul, Nat.reduceSub, Nat.reduceLeDiff, Nat.reduceLT, reduceCtorEq]
  refine aw_if rfl (fun h => ?_) (fun h => ?_)
  · refine aw_sr rfl ?_
    simp only [go_sem, reduceIte, Nat.reduceEqDiff, Nat.reduceAdd, Nat.reduceMul, Nat.reduceSub, Nat.reduceLeDiff, Nat.reduceLT, reduceCtorEq]
    refine aw_ret ⟨trivial, _, rfl, ?_, fun _ _ h => h⟩
    rw [if_pos (by simpa [wantsF] using h)]
    exact Vle.refl _
  have hok : hc = 0 ∧ wantsF root = 0 := by simpa [wantsF] using h
  obtain ⟨g1, g2, g3⟩ := h5 hok.1
  have g4 := h6 hok.2
  refine aw_skip (hK1 _ _ ?_)
  refine aw_sr rfl ?_
  simp only [go_sem, reduceIte, Nat.reduceEqDiff, Nat.reduceAdd, Nat.reduceMul, Nat.reduceSub, Nat.reduceLeDiff, Nat.reduceLT, reduceCtorEq]
  intro b7 hb7
  refine aw_sr rfl ?_
  simp only [go_sem, reduceIte, Nat.reduceEqDiff, Nat.reduceAdd, Nat.reduceMul, Nat.reduceSub, Nat.reduceLeDiff, Nat.reduceLT, reduceCtorEq]
  refine aw_seq fun K2 hK2 => ?_
  refine aw_sr rfl ?_
  simp only [go_sem, reduceIte, Nat.reduceEqDiff, Nat.reduceAdd, Nat.reduceMul, Nat.reduceSub, Nat.reduceLeDiff, Nat.reduceLT, reduceCtorEq]
  refine aw_range ps.length (S := Unit) (fun i _ => [(7, .map b7), (8, .str (lastF ps i)), (22, .sl (ps.map ePk) pn .no), (0, .sl (l.map eMo) ln .no), (1, .sl (root.map eUse) rn .no), (2, .sl (ps.map ePk) pn .no)]) (fun i _ => (b7, .map ((ps.take i).map kvP)) :: G) (fun i _ => strictF (lastF ps i) (ps.drop i) = strictF [] ps ∧ ∀ q ∈ ps.take i, Op.bytesLess q.1 (lastF ps i) = true ∨ q.1 = lastF ps i) () (by omega) ?_ (fun _ _ h => h) ?_ rfl (fun _ _ => rfl) ?_ ?_ (by decide)
  · simp only [go_sem, reduceIte, Nat.reduceEqDiff, Nat.reduceAdd, Nat.reduceMul, Nat.reduceSub, Nat.reduceLeDiff, Nat.reduceLT, reduceCtorEq, Int.natCast_zero, show lastF ps 0 = [] from rfl]
  · exact ⟨by simp [lastF], by simp⟩
  · intro i _ hi ⟨j1, j2⟩
    rw [List.drop_eq_getElem_cons hi, strictF] at j1
    refine aw_sr rfl ?_
    generalize hp : ps[i] = p at j1
    simp only [go_sem, reduceIte, Nat.reduceEqDiff, Nat.reduceAdd, Nat.reduceMul, Nat.reduceSub, Nat.reduceLeDiff, Nat.reduceLT, reduceCtorEq, getD_map hi, hp, ePk, cPk]
    refine ⟨⟨by omega, by omega, wid_map (g := ePk) (fun _ => rfl) _⟩, fun b10 hb10 => ?_⟩
    obtain ⟨n107, n10⟩ := fresh_cons hb10
    refine aw_seq fun K3 hK3 => ?_
    refine aw_sr rfl ?_
    simp only [go_sem, reduceIte, Nat.reduceEqDiff, Nat.reduceAdd, Nat.reduceMul, Nat.reduceSub, Nat.reduceLeDiff, Nat.reduceLT, reduceCtorEq]
    refine aw_if rfl (fun h => ?_) (fun h => ?_)
    · have hf : strictF [] ps = false := by rw [← j1]; have : (Op.bytesLess p.1 (lastF ps i) || decide (p.1 = lastF ps i)) = true := by simpa using h
                                            rw [this]; rfl
      refine aw_sr rfl ?_
      simp only [go_sem, reduceIte, Nat.reduceEqDiff, Nat.reduceAdd, Nat.reduceMul, Nat.reduceSub, Nat.reduceLeDiff, Nat.reduceLT, reduceCtorEq]
      refine aw_ret ⟨trivial, _, rfl, ?_, fun b o h => sub_fresh n10 (sub_tail hb7) _ _ h⟩
      rw [if_neg (by rw [hok.1, hok.2]; simp), if_pos hf]
      exact Vle.refl _
    have hf : (Op.bytesLess p.1 (lastF ps i) || decide (p.1 = lastF ps i)) = false := by simpa using h
    rw [hf, Bool.not_false, Bool.true_and] at j1
    refine aw_skip (hK3 _ _ ?_)
    have hps : i < ps.length := hi
    have hl : lastF ps (i + 1) = p.1 := by rw [lastF, if_pos (by omega), Nat.add_sub_cancel, getD_at hi, hp]
    have ht : ps.take (i + 1) = ps.take i ++ [p] := by rw [List.take_add_one, List.getElem?_eq_getElem hi, hp]; rfl
    simp only [Bool.or_eq_false_iff, decide_eq_false_iff_not] at hf
    have hlt : Op.bytesLess (lastF ps i) p.1 = true := by
      rcases less_total p.1 (lastF ps i) with h' | h' | h'
      · rw [hf.1] at h'; cases h'
      · exact absurd h' hf.2
      · exact h'
    have hmf : mfind (.str p.1) ((ps.take i).map kvP) 0 = some none := by
      rcases mfind_pick (s := p.1) (S := ps.take i) (i := 0) with ⟨_, h⟩ | ⟨q, jj, h, _⟩
      · exact h
      · have hq : q.1 = p.1 := by simpa using List.find?_some h
        rcases j2 q (List.mem_of_find?_eq_some h) with h' | h'
        · rw [hq] at h'; rw [hf.1] at h'; cases h'
        · exact absurd (hq.symm.trans h') hf.2
    refine aw_sr rfl ?_
    simp only [go_sem, reduceIte, Nat.reduceEqDiff, Nat.reduceAdd, Nat.reduceMul, Nat.reduceSub, Nat.reduceLeDiff, Nat.reduceLT, reduceCtorEq]
    refine aw_rg rfl ?_
    simp only [go_sem, reduceIte, Nat.reduceEqDiff, Nat.reduceAdd, Nat.reduceMul, Nat.reduceSub, Nat.reduceLeDiff, Nat.reduceLT, reduceCtorEq, n107, hmf, mput]
    have hk : (ps.take i).map kvP ++ [kvP p] = (ps.take (i + 1)).map kvP := by rw [ht, List.map_append]; rfl
    refine ⟨(), ⟨by rw [hl]; exact j1, ?_⟩, ?_, ?_⟩
    · intro q hq
      rw [ht] at hq
      rw [hl]
      rcases List.mem_append.1 hq with hq | hq
      · rcases j2 q hq with h' | h'
        · exact .inl (less_trans h' hlt)
        · rw [h']; exact .inl hlt
      · rw [List.mem_singleton.1 hq]; exact .inr rfl
    · simp only [go_sem, reduceIte, Nat.reduceEqDiff, Nat.reduceAdd, Nat.reduceMul, Nat.reduceSub, Nat.reduceLeDiff, Nat.reduceLT, reduceCtorEq, hl]
    · rw [← hk]
      exact sub_tail (by rw [hget_cons_ne (fun e => n107 e.symm)]; exact n10)
  · intro _ ⟨j1, j2⟩
    rw [List.drop_length, strictF] at j1
    rw [List.take_length]
    refine hK2 _ _ ?_
    refine aw_sr rfl ?_
    simp only [go_sem, reduceIte, Nat.reduceEqDiff, Nat.reduceAdd, Nat.reduceMul, Nat.reduceSub, Nat.reduceLeDiff, Nat.reduceLT, reduceCtorEq]
    refine goA_by (a_told l ln root rn ps b7 _ (hget_self _ _ _) hll hrl hpl g1 g2 g4 g3) fun y G1 hy => ?_
    obtain ⟨⟨hr, rfl⟩ | ⟨seen, b', hr, rfl, hgm⟩, hs⟩ := hy
    · simp only [go_sem, reduceIte, Nat.reduceEqDiff, Nat.reduceAdd, Nat.reduceMul, Nat.reduceSub, Nat.reduceLeDiff, Nat.reduceLT, reduceCtorEq]
      refine aw_sr rfl ?_
      simp only [go_sem, reduceIte, Nat.reduceEqDiff, Nat.reduceAdd, Nat.reduceMul, Nat.reduceSub, Nat.reduceLeDiff, Nat.reduceLT, reduceCtorEq]
      refine aw_ret ⟨trivial, _, rfl, ?_, fun b o h => hs _ _ (sub_tail hb7 _ _ h)⟩
      rw [if_neg (by rw [hok.1, hok.2]; simp), if_neg (by rw [← j1]; simp), hr]
      exact Vle.refl _
    · simp only [go_sem, reduceIte, Nat.reduceEqDiff, Nat.reduceAdd, Nat.reduceMul, Nat.reduceSub, Nat.reduceLeDiff, Nat.reduceLT, reduceCtorEq]
      refine aw_sr rfl ?_
      simp only [go_sem, reduceIte, Nat.reduceEqDiff, Nat.reduceAdd, Nat.reduceMul, Nat.reduceSub, Nat.reduceLeDiff, Nat.reduceLT, reduceCtorEq, hgm]
      refine aw_ret ⟨trivial, _, rfl, ?_, fun b o h => hs _ _ (sub_tail hb7 _ _ h)⟩
      rw [if_neg (by rw [hok.1, hok.2]; simp), if_neg (by rw [← j1]; simp), hr]
      have e : decide ((seen.length : Int) = (ps.length : Int)) = decide (seen.length = ps.length) := decide_eq_decide.2 (by omega)
      rw [e]
      exact Vle.refl _
end Go.Proofs.Ytomjghlaoncpbaa
