import Derived.Test.YtomjghlaoncpbaaShapF
import Derived.Test.YtomjghlaoncpbaaVu
set_option linter.unusedSimpArgs false
set_option linter.unusedVariables false
namespace Go.Proofs.Ytomjghlaoncpbaa
open Go.Proofs.YtomjghlaoncpbaaV
set_option maxHeartbeats 400000
set_option maxRecDepth 100000
theorem isEmpty_take_add {A : Type} {l : List A} {i : Nat} (h : i < l.length) : (l.take (i + 1)).isEmpty = false := by
  cases l with
  | nil => simp at h
  | cons a l => rfl
mutual
/-- A type with arguments in the places of parameters. -/
def fillF (nm : Nms) (as_ : List Typ) : Typ → Typ
  | .mk k n ar nl => if k = 5 then (match nm.1.findIdx? (fun x => decide (n = x)) with
      | some i => if h : i < as_.length then as_[i] else .mk k n (fillFs nm as_ ar) ar.isEmpty
      | none => .mk k n (fillFs nm as_ ar) ar.isEmpty) else .mk k n (fillFs nm as_ ar) ar.isEmpty
def fillFs (nm : Nms) (as_ : List Typ) : List Typ → List Typ
  | [] => []
  | t :: ts => fillF nm as_ t :: fillFs nm as_ ts
end
theorem fillFs_map (nm : Nms) (as_ : List Typ) : ∀ ts, fillFs nm as_ ts = ts.map (fillF nm as_)
  | [] => rfl
  | t :: ts => by rw [fillFs, fillFs_map nm as_ ts]; rfl
abbrev fillB (nm : Nms) (as_ : List Typ) (t : Typ) : Typ := .mk t.kind t.name (t.args.map (fillF nm as_)) t.args.isEmpty
theorem fillF_in {nm : Nms} {as_ : List Typ} {t : Typ} {i : Nat} (hk : t.kind = 5) (hn : nm.1.findIdx? (fun x => decide (t.name = x)) = some i) (h : i < as_.length) : fillF nm as_ t = as_[i] := by
  cases t with | mk k n ar nl =>
  have hk : k = 5 := hk
  have hn : nm.1.findIdx? (fun x => decide (n = x)) = some i := hn
  rw [fillF, if_pos hk, hn]
  exact dif_pos h
theorem fillF_out {nm : Nms} {as_ : List Typ} {t : Typ} (h : ∀ i, t.kind = 5 → nm.1.findIdx? (fun x => decide (t.name = x)) = some i → i < as_.length → False) : fillF nm as_ t = fillB nm as_ t := by
  cases t with | mk k n ar nl =>
  have h : ∀ i, k = 5 → nm.1.findIdx? (fun x => decide (n = x)) = some i → i < as_.length → False := h
  rw [fillF]
  show _ = Typ.mk k n (ar.map (fillF nm as_)) ar.isEmpty
  rw [← fillFs_map]
  by_cases hk : k = 5
  · rw [if_pos hk]
    cases hn : nm.1.findIdx? (fun x => decide (n = x)) with
    | none => rfl
    | some i => exact dif_neg fun q => h i hk hn q
  · rw [if_neg hk]
theorem fillB_ok {nm : Nms} {as_ : List Typ} {t : Typ} (ht : OkTyp t) (h : ∀ a ∈ t.args, OkTyp (fillF nm as_ a)) : OkTyp (fillB nm as_ t) := by
  refine .mk ht.kind ht.name (fun e => ?_) (by rw [List.length_map]; exact ht.len) (fun a ha => ?_)
  · rw [List.isEmpty_iff] at e; rw [e]; rfl
  · obtain ⟨b, hb, rfl⟩ := List.mem_map.1 ha
    exact h b hb
theorem fillF_ok {nm : Nms} {as_ : List Typ} (ha : ∀ a ∈ as_, OkTyp a) : ∀ {t : Typ}, OkTyp t → OkTyp (fillF nm as_ t) := by
  intro t ht
  induction ht with
  | @mk k n ar nl hk hn hnl hl har ih =>
    by_cases h : ∃ i, k = 5 ∧ nm.1.findIdx? (fun x => decide (n = x)) = some i ∧ i < as_.length
    · obtain ⟨i, h1, h2, h3⟩ := h
      rw [fillF_in (t := .mk k n ar nl) h1 h2 h3]
      exact ha _ (List.getElem_mem h3)
    · rw [fillF_out (t := .mk k n ar nl) fun i h1 h2 h3 => h ⟨i, h1, h2, h3⟩]
      exact fillB_ok (.mk hk hn hnl hl har) ih
/-- shape.filled -/
theorem q_filled (nm : Nms) (as_ : List Typ) (anl : Bool) (hnm : nm.1.length ≤ bulk) (has : as_.length ≤ bulk) : ∀ (n : Nat) (t : Typ), t.sz ≤ n → OkTyp t →
    Quiet Try.prog 184 [.agg (cTyp t), .sl (nm.1.map eNm) nm.2 .no, .sl (as_.map eTyp) anl .no] (.agg (cTyp (fillF nm as_ t))) := by
  intro n
  induction n with
  | zero => intro t h; have := t.sz_eq; omega
  | succ n ih =>
  intro t hn ht
  have hasl : as_.length ≤ 1048576 := has
  have htl : t.args.length ≤ 1048576 := ht.len
  refine Quiet.weak fun G => ?_
  refine acall_body (rs := [.cell 6 65]) Try.func184 rfl rfl Try.ntmps184 (by kernel_rfl) (Nat.le_of_ble_eq_true rfl) ?_
  refine aw_sr rfl ?_  -- r0 @shape.go:86
  simp only [go_sem, reduceIte, Nat.reduceEqDiff, Nat.reduceAdd, Nat.reduceMul, Nat.reduceSub, Nat.reduceLeDiff, Nat.reduceLT, reduceCtorEq]
  intro b3 hb3 b6 hb6
  have hG6 := (fresh_cons hb6).2
  refine aw_box2 hb3 hb6 fun B1 hs1 h3 h6 _ _ => ?_
  have hsB := hs1
  refine aw_seq fun K1 hK1 => ?_
  refine aw_sr rfl ?_  -- r1 @shape.go:87
  simp only [go_sem, reduceIte, Nat.reduceEqDiff, Nat.reduceAdd, Nat.reduceMul, Nat.reduceSub, Nat.reduceLeDiff, Nat.reduceLT, reduceCtorEq, h3]
  refine goA_q (q_IndexStr nm.1 nm.2 .no t.name (le_bulk hnm)) ?_
  simp only [go_sem, reduceIte, Nat.reduceEqDiff, Nat.reduceAdd, Nat.reduceMul, Nat.reduceSub, Nat.reduceLeDiff, Nat.reduceLT, reduceCtorEq]
  refine aw_sr rfl ?_  -- r2 @shape.go:87
  simp only [go_sem, reduceIte, Nat.reduceEqDiff, Nat.reduceAdd, Nat.reduceMul, Nat.reduceSub, Nat.reduceLeDiff, Nat.reduceLT, reduceCtorEq, h3]
  generalize hix : nm.1.findIdx? (fun x => decide (t.name = x)) = ix
  refine aw_if rfl (fun h => ?_) (fun h => ?_)
  · have hh : ∃ i, ix = some i ∧ t.kind = 5 ∧ i < as_.length := by
      cases ix with
      | none => simp [ixI] at h
      | some i => exact ⟨i, rfl, by simp [ixI] at h; omega⟩
    obtain ⟨i, rfl, hk, hi⟩ := hh
    refine aw_sr rfl ?_  -- r3 @shape.go:88
    simp only [go_sem, reduceIte, Nat.reduceEqDiff, Nat.reduceAdd, Nat.reduceMul, Nat.reduceSub, Nat.reduceLeDiff, Nat.reduceLT, reduceCtorEq, h6, ixI, getD_map hi, eTyp_eq]
    refine ⟨⟨by omega, by omega, wid_eTyp _⟩, ?_⟩
    refine aw_ret ⟨trivial, [.agg (cTyp as_[i])], ?_, ?_, sub_hset_fresh hG6 hsB⟩
    · simp only [go_sem, reduceIte, Nat.reduceEqDiff, Nat.reduceAdd, Nat.reduceMul, Nat.reduceSub, Nat.reduceLeDiff, Nat.reduceLT, reduceCtorEq, resL, resOf, hget_hset_self h6]
    · rw [fillF_in hk hix hi]; exact Vle.refl _
  have hno : fillF nm as_ t = fillB nm as_ t := fillF_out fun i hk hn hi => by
    rw [hix] at hn
    subst hn
    simp [ixI, hk] at h
    omega
  refine aw_skip (hK1 _ _ ?_)
  refine aw_sr rfl ?_  -- r4 @shape.go:90
  simp only [go_sem, reduceIte, Nat.reduceEqDiff, Nat.reduceAdd, Nat.reduceMul, Nat.reduceSub, Nat.reduceLeDiff, Nat.reduceLT, reduceCtorEq, h3]
  intro b8 hb8
  have hG8 := sub_none hsB hb8
  have n86 : ¬ b8 = b6 := fun e => by subst e; rw [h6] at hb8; cases hb8
  refine aw_box1 hb8 fun B2 hs2 h8 => ?_
  replace h3 := hs2 _ _ h3
  replace h6 := hs2 _ _ h6
  replace hsB := sub_trans hsB hs2
  refine aw_seq fun K2 hK2 => ?_
  refine aw_sr rfl ?_  -- r5 @shape.go:91
  simp only [go_sem, reduceIte, Nat.reduceEqDiff, Nat.reduceAdd, Nat.reduceMul, Nat.reduceSub, Nat.reduceLeDiff, Nat.reduceLT, reduceCtorEq, h3]
  refine aw_range t.args.length (S := Bool × Tag × Heap) (fun i st => [(1, .sl (nm.1.map eNm) nm.2 .no), (2, .sl (as_.map eTyp) anl .no), (6, .ptr b6 0), (8, .ptr b8 0), (38, .sl (t.args.map eTyp) t.nl .no)]) (fun _ st => st.2.2)
    (fun i st => Rm G st.2.2 3 st.2.1 ∧ Sub G st.2.2 ∧ hget st.2.2 b6 = some (.vars [.int .i64 0, .str [], .sl [] true .full]) ∧ hget st.2.2 b8 = some (.vars [.int .i64 t.kind, .str t.name, .sl (((t.args.take i).map (fillF nm as_)).map eTyp) st.1 st.2.1]) ∧ st.1 = (t.args.take i).isEmpty)
    (true, .full, B2) (by omega) ?_ (fun _ _ h => h) ⟨Rm.start _ _ _, hsB, h6, by simpa using h8, by simp⟩ rfl (fun _ _ => rfl) ?_ ?_ (by decide)
  · simp only [go_sem, reduceIte, Nat.reduceEqDiff, Nat.reduceAdd, Nat.reduceMul, Nat.reduceSub, Nat.reduceLeDiff, Nat.reduceLT, reduceCtorEq, Int.natCast_zero]
  · intro i ⟨nl2, t2, H⟩ hi ⟨hr, hs, h6, h8, hnl⟩
    simp only at hr hs h6 h8 hnl ⊢
    have ham : t.args[i] ∈ t.args := List.getElem_mem hi
    have happ : ((t.args.take i).map (fillF nm as_)).map eTyp ++ [eTyp (fillF nm as_ t.args[i])] = ((t.args.take (i + 1)).map (fillF nm as_)).map eTyp := by
      rw [List.take_succ_eq_append_getElem hi]; simp only [List.map_append, List.map_cons, List.map_nil]
    refine aw_sr rfl ?_  -- r7 @shape.go:91
    simp only [go_sem, reduceIte, Nat.reduceEqDiff, Nat.reduceAdd, Nat.reduceMul, Nat.reduceSub, Nat.reduceLeDiff, Nat.reduceLT, reduceCtorEq, getD_map hi, eTyp_eq]
    refine ⟨⟨by omega, by omega, wid_eTyp _⟩, ?_⟩
    intro b10 hb10
    refine aw_box1 hb10 fun B3 hs3 h10 => ?_
    replace h6 := hs3 _ _ h6
    replace h8 := hs3 _ _ h8
    refine aw_rgd [(0,true),(1,true),(2,true),(3,true),(4,true),(5,true),(6,true),(7,false),(8,true),(9,false)] mixed rfl (by kernel_rfl) ?_  -- r8 @shape.go:92
    simp only [go_sem, reduceIte, Nat.reduceEqDiff, Nat.reduceAdd, Nat.reduceMul, Nat.reduceSub, Nat.reduceLeDiff, Nat.reduceLT, reduceCtorEq, h8, h10]
    refine goQ_by (ih t.args[i] (by have := Typ.sz_args ham; omega) (ht.arg ham)) ?_
    simp only [go_sem, reduceIte, Nat.reduceEqDiff, Nat.reduceAdd, Nat.reduceMul, Nat.reduceSub, Nat.reduceLeDiff, Nat.reduceLT, reduceCtorEq]
    refine goP_rm (hr.sub hs3) (sub_trans hs hs3) ?_ fun t' H' hr' hs' hg => ?_
    · exact ⟨rfl, rfl, by decide, wid_eTyp _, wid_one rfl, sca_one rfl, by simp; omega, by simp; omega⟩
    simp only [go_sem, reduceIte, Nat.reduceEqDiff, Nat.reduceAdd, Nat.reduceMul, Nat.reduceSub, Nat.reduceLeDiff, Nat.reduceLT, reduceCtorEq, hg.vars h8, Bool.and_false]
    refine ⟨(false, t', hset H' b8 (.vars [.int .i64 t.kind, .str t.name, .sl (((t.args.take (i + 1)).map (fillF nm as_)).map eTyp) false t'])), ⟨hr'.hset (hg.vars h8) (fun _ _ e => by cases e), sub_hset_fresh hG8 hs', ?_, hget_hset_self (hg.vars h8), (isEmpty_take_add hi).symm⟩, ?_, ?_⟩
    · rw [hget_hset_ne (fun e => n86 e.symm)]; exact hg.vars h6
    · simp only [go_sem, reduceIte, Nat.reduceEqDiff, Nat.reduceAdd, Nat.reduceMul, Nat.reduceSub, Nat.reduceLeDiff, Nat.reduceLT, reduceCtorEq]
    · rw [← happ, eTyp_eq]; exact sub_rfl
  · intro ⟨nl2, t2, H⟩ ⟨hr, hs, h6, h8, hnl⟩
    simp only at hr hs h6 h8 hnl ⊢
    rw [List.take_length] at h8 hnl
    refine hK2 _ _ ?_
    refine aw_sr rfl ?_  -- r10 @shape.go:94
    simp only [go_sem, reduceIte, Nat.reduceEqDiff, Nat.reduceAdd, Nat.reduceMul, Nat.reduceSub, Nat.reduceLeDiff, Nat.reduceLT, reduceCtorEq, h6, h8]
    refine aw_ret ⟨trivial, [.agg [.int .i64 t.kind, .str t.name, .sl ((t.args.map (fillF nm as_)).map eTyp) nl2 t2]], ?_, ?_, sub_hset_fresh hG6 hs⟩
    · simp only [go_sem, reduceIte, Nat.reduceEqDiff, Nat.reduceAdd, Nat.reduceMul, Nat.reduceSub, Nat.reduceLeDiff, Nat.reduceLT, reduceCtorEq, resL, resOf, hget_hset_self h6]
    · rw [hnl, hno]
      refine Vle.aggL ?_
      repeat (first | exact .nil | refine .cons (Vle.refl _) ?_ | refine .cons Vle.untag ?_ | refine .cons (Vle.aggL ?_) ?_ | refine .cons (Vle.slE ?_) ?_)
end Go.Proofs.Ytomjghlaoncpbaa
