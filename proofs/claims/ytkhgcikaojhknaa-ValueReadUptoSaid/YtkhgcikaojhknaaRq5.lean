/- Part 5 of a proof laid in parts; each part's own comment says what it proves and under which conditions. -/
import Derived.Test.YtkhgcikaojhknaaRq4
import Derived.Test.YtkhgcikaojhknaaRq3
import Derived.Test.YtkhgcikaojhknaaRows
import Derived.WalkKit
import Derived.ProofKit
import Derived.OpenShut
import Derived.JoinedCond
set_option linter.unusedSimpArgs false
set_option linter.unusedVariables false
namespace Go.Proofs.Ytkhgcikaojhknaa
open Go.Proofs.YtkhgcikaojhknaaV
set_option maxHeartbeats 400000
set_option maxRecDepth 100000
abbrev cAt (x : At) : List V := [.int .i64 x.1.kind, .int .i64 x.1.num, .str x.1.text, .sl (x.1.args.map eVal) x.1.nl .no, .int .i64 x.2]
def eAt (x : At) : List V := cAt x
theorem sca_eAt (l : List At) : sca (l.map eAt) := by
  intro e he x hx
  obtain ⟨u, _, rfl⟩ := List.mem_map.1 he
  simp only [eAt, cAt, List.mem_cons, List.not_mem_nil, or_false] at hx
  rcases hx with rfl | rfl | rfl | rfl | rfl <;> rfl
theorem wid_eAt (l : List At) : wid 5 (l.map eAt) := wid_map (g := eAt) (fun _ => rfl) _
/-- What a kind has; how many args at most. -/
def hasF (v : Val) : List UInt8 := if v.kind = 2 ∨ v.kind = 6 then [110] else if v.kind = 3 then (if v.num = 1 then [110] else []) else if v.kind = 4 then [116] else if v.kind = 5 then [116] else if v.kind = 7 then [110, 116] else []
def mostF (v : Val) : Int := if v.kind = 5 then 400 else if v.kind = 7 then 400 else if v.kind = 8 then 1 else 0
/-- What the reference asks of a node whose kind there is. -/
def badN (v : Val) : Bool := ((!decide (v.num = 0) && !(hasF v).any (fun b => decide ((110 : Int) = (b.toNat : Int)))) || (!decide (v.text = []) && !(hasF v).any (fun b => decide ((116 : Int) = (b.toNat : Int))))) || decide ((v.args.length : Int) > mostF v)
theorem badN_node {v : Val} (h1 : v.kind = 1 ∨ (v.kind = 2 ∨ v.kind = 6) ∨ v.kind = 3 ∨ v.kind = 4 ∨ v.kind = 5 ∨ v.kind = 7 ∨ v.kind = 8) (h5 : v.kind = 5 → ¬ v.text = []) (hl : v.args.length ≤ 400) : badN v = !nodeV v := by
  have e0 : decide (0 < v.args.length) = !decide (v.args = []) := by cases v.args <;> simp
  have e4 : decide ((v.args.length : Int) > 400) = false := decide_eq_false (by omega)
  have e1 : decide ((v.args.length : Int) > 1) = !decide ((v.args.length : Int) ≤ 1) := by
    rw [← decide_not]; exact decide_eq_decide.2 (by omega)
  rcases h1 with h | h | h | h | h | h | h
  · simp [badN, nodeV, hasF, mostF, h, Bool.not_and, e0]
  · rcases h with h | h <;> simp [badN, nodeV, hasF, mostF, h, Bool.not_and, e0]
  · by_cases hn : v.num = 1
    · simp [badN, nodeV, hasF, mostF, h, hn, Bool.not_and, e0]
    · simp [badN, nodeV, hasF, mostF, h, hn, Bool.not_and, e0]
  · simp [badN, nodeV, hasF, mostF, h, Bool.not_and, e0]
  · have := h5 h
    have hb : hasF v = [116] := by simp [hasF, h]
    have hm : mostF v = 400 := by simp [mostF, h]
    have hn : nodeV v = (decide (v.num = 0) && !decide (v.text = [])) := by simp [nodeV, h]
    rw [badN, hb, hm, hn, e4, decide_eq_false this]
    simp
  · have hb : hasF v = [110, 116] := by simp [hasF, h]
    have hm : mostF v = 400 := by simp [mostF, h]
    have hn : nodeV v = true := by simp [nodeV, h]
    rw [badN, hb, hm, hn, e4]
    simp
  · have hb : hasF v = [] := by simp [hasF, h]
    have hm : mostF v = 1 := by simp [mostF, h]
    have hn : nodeV v = (decide (v.num = 0) && decide (v.text = []) && decide ((v.args.length : Int) ≤ 1)) := by simp [nodeV, h]
    rw [badN, hb, hm, hn, e1]
    simp only [List.any_nil, Bool.not_false, Bool.and_true, Bool.not_and]
structure BfS where
  l : List At
  i : Nat
  nl : Bool
  t : Tag
  H : Heap
structure BfOk (v : Val) (l : List At) (i : Nat) : Prop where
  le : i ≤ l.length
  sz : szs ((l.drop i).map (·.1)) + i = v.sz
  all : ∀ p : Val → Nat → Bool, ((l.take i).all (fun x => p x.1 x.2) && (l.drop i).all (fun x => allV p x.1 x.2)) = allV p v 1
  ok : ∀ x ∈ l, x.2 + x.1.deep ≤ v.deep + 1 ∧ x.1.sz ≤ v.sz ∧ OkVal x.1
theorem szs_kids (x : At) : szs ((kids x).map (·.1)) = szs x.1.args := by
  have : (kids x).map (·.1) = x.1.args := by simp [kids, List.map_map, Function.comp_def]
  rw [this]
theorem deep_arg {v a : Val} (h : a ∈ v.args) : a.deep + 1 ≤ v.deep := by
  rw [deep_eq v]
  have : ∀ l : List Val, a ∈ l → a.deep ≤ deeps l := by
    intro l
    induction l with
    | nil => intro h; cases h
    | cons u l ih =>
      intro h
      rw [deeps]
      rcases List.mem_cons.1 h with rfl | h
      · exact Nat.le_max_left _ _
      · exact Nat.le_trans (ih h) (Nat.le_max_right _ _)
  have := this _ h
  omega
theorem BfOk.next {v : Val} {l : List At} {i : Nat} (h : BfOk v l i) (hi : i < l.length) : BfOk v (l ++ kids l[i]) (i + 1) := by
  have hd := List.drop_eq_getElem_cons hi
  have h1 : (l ++ kids l[i]).drop (i + 1) = l.drop (i + 1) ++ kids l[i] := by rw [List.drop_append_of_le_length (by omega)]
  have h2 : (l ++ kids l[i]).take (i + 1) = l.take i ++ [l[i]] := by rw [List.take_append_of_le_length (by omega), List.take_succ_eq_append_getElem hi]
  refine ⟨by simp; omega, ?_, fun p => ?_, fun x hx => ?_⟩
  · have := h.sz
    rw [hd, List.map_cons, szs, Val.sz_eq] at this
    rw [h1, List.map_append, szs_append, szs_kids]
    omega
  · rw [h1, h2, ← h.all p, hd]
    simp only [List.all_append, List.all_cons, List.all_nil, Bool.and_true]
    rw [allV_eq p l[i]]
    ac_rfl
  · rcases List.mem_append.1 hx with hx | hx
    · exact h.ok x hx
    · obtain ⟨a, ha, rfl⟩ := List.mem_map.1 hx
      obtain ⟨g1, g2, g3⟩ := h.ok _ (List.getElem_mem hi)
      have := deep_arg ha
      have := Val.sz_args ha
      exact ⟨by show l[i].2 + 1 + a.deep ≤ v.deep + 1; omega, by show a.sz ≤ v.sz; omega, g3.arg ha⟩
theorem BfOk.start {v : Val} (h : OkVal v) : BfOk v [(v, 1)] 0 := ⟨by simp, by simp [szs], fun p => by simp, fun x hx => by simp at hx; subst hx; exact ⟨by simp; omega, Nat.le_refl _, h⟩⟩
theorem kids_succ {x : At} {j : Nat} (h : j < x.1.args.length) : (kids x).take (j + 1) = (kids x).take j ++ [(x.1.args[j], x.2 + 1)] := by
  have : j < (kids x).length := by simpa [kids] using h
  rw [List.take_succ_eq_append_getElem this]; simp [kids]
theorem q_ValueFault (v : Val) (ho : oVal v) : Quiet Try.prog 154 [.agg (cV v)] (.int .i64 (checkV v)) := by
  have hb : v.sz ≤ 1048576 := ho.2
  have hdl := deep_le v
  refine Quiet.weak fun G => ?_
  refine acall_body (rs := [.tmp 2]) Try.func154 rfl rfl Try.ntmps154 (by kernel_rfl) (Nat.le_of_ble_eq_true rfl) ?_
  refine aw_sr rfl ?_
  simp only [go_sem, reduceIte, Nat.reduceEqDiff, Nat.reduceAdd, Nat.reduceMul, Nat.reduceSub, Nat.reduceLeDiff, Nat.reduceLT, reduceCtorEq]
  intro b1 hb1
  refine aw_sr rfl ?_
  simp only [go_sem, reduceIte, Nat.reduceEqDiff, Nat.reduceAdd, Nat.reduceMul, Nat.reduceSub, Nat.reduceLeDiff, Nat.reduceLT, reduceCtorEq]
  refine aw_seq fun K1 hK1 => ?_
  refine aw_sr rfl ?_
  simp only [go_sem, reduceIte, Nat.reduceEqDiff, Nat.reduceAdd, Nat.reduceMul, Nat.reduceSub, Nat.reduceLeDiff, Nat.reduceLT, reduceCtorEq]
  refine aw_block ?_
  refine aw_lph (S := {s : BfS // BfOk v s.l s.i ∧ Room G 5 s.t s.H}) (fun s => [(3, .sl (s.1.l.map eAt) s.1.nl s.1.t), (4, .int .i64 s.1.i)]) (fun s => s.1.H) (fun s => v.sz - s.1.i) ⟨⟨[(v, 1)], 0, false, .full, G⟩, BfOk.start ho.1, Room.start G 5⟩ ?_ (sub_tail hb1) ?_
  · simp only [go_sem, reduceIte, Nat.reduceEqDiff, Nat.reduceAdd, Nat.reduceMul, Nat.reduceSub, Nat.reduceLeDiff, Nat.reduceLT, reduceCtorEq, List.map_cons, List.map_nil, eAt, cAt, Int.natCast_zero, Int.natCast_one]
  intro ⟨⟨l, i, nl, t, H⟩, hbf, hr⟩
  simp only at hbf hr ⊢
  have hszl := szs_len ((l.drop i).map (·.1))
  have hsz := hbf.sz
  have hle := hbf.le
  rw [List.length_map, List.length_drop] at hszl
  refine aw_seq fun K2 hK2 => ?_
  refine aw_sr rfl ?_
  simp only [go_sem, reduceIte, Nat.reduceEqDiff, Nat.reduceAdd, Nat.reduceMul, Nat.reduceSub, Nat.reduceLeDiff, Nat.reduceLT, reduceCtorEq]
  refine aw_if rfl (fun h => ?_) (fun h => ?_)
  · have hi : i < l.length := by
      have : (i : Int) < (l.length : Int) := by simpa using h
      omega
    have hnx := hbf.next hi
    obtain ⟨o1, o2, o3⟩ := hbf.ok _ (List.getElem_mem hi)
    have hal : l[i].1.args.length ≤ 1048576 := o3.len
    have hnl := szs_len (((l ++ kids l[i]).drop (i + 1)).map (·.1))
    rw [List.length_map, List.length_drop, List.length_append] at hnl
    have hns := hnx.sz
    have hkl : (kids l[i]).length = l[i].1.args.length := by simp [kids]
    refine aw_skip (hK2 _ _ ?_)
    refine aw_seq fun K3 hK3 => ?_
    refine aw_block ?_
    refine aw_sr rfl ?_
    simp only [go_sem, reduceIte, Nat.reduceEqDiff, Nat.reduceAdd, Nat.reduceMul, Nat.reduceSub, Nat.reduceLeDiff, Nat.reduceLT, reduceCtorEq, getD_map hi, eAt, cAt]
    refine ⟨⟨by omega, by omega, wid_eAt _⟩, ?_⟩
    refine aw_range l[i].1.args.length (S := Bool × Tag × Heap) (fun j s => [(29, .sl (l[i].1.args.map eVal) l[i].1.nl .no), (3, .sl ((l ++ (kids l[i]).take j).map eAt) s.1 s.2.1), (4, .int .i64 i)]) (fun _ s => s.2.2) (fun j s => Room G 5 s.2.1 s.2.2) (nl, t, H) (by omega) ?_ (fun _ _ h => h) hr rfl (fun _ _ => rfl) ?_ ?_ (by decide)
    · simp only [go_sem, reduceIte, Nat.reduceEqDiff, Nat.reduceAdd, Nat.reduceMul, Nat.reduceSub, Nat.reduceLeDiff, Nat.reduceLT, reduceCtorEq, Int.natCast_zero, List.take_zero, List.append_nil]
    · intro j ⟨nl2, t2, H2⟩ hj he
      simp only at he ⊢
      have hi2 : i < (l ++ (kids l[i]).take j).length := by simp; omega
      have hgl : (l ++ (kids l[i]).take j)[i] = l[i] := List.getElem_append_left hi
      refine aw_sr rfl ?_
      simp only [go_sem, reduceIte, Nat.reduceEqDiff, Nat.reduceAdd, Nat.reduceMul, Nat.reduceSub, Nat.reduceLeDiff, Nat.reduceLT, reduceCtorEq, getD_map hj, eC, cV]
      refine ⟨⟨by omega, by omega, wid_eVal _⟩, fun b6 hb6 => ?_⟩
      obtain ⟨H3, hr3, hs3⟩ := he.push (o := .vars (cV l[i].1.args[j])) hb6
      refine AW.of_hsub hs3 ?_
      have hg6 : hget H3 b6 = some (.vars (cV l[i].1.args[j])) := hr3.sub _ _ (hget_self _ _ _)
      have hw : IntKind.i64.wrap ((l[i].2 : Int) + 1) = ((l[i].2 + 1 : Nat) : Int) := by rw [wrap64 (by omega) (by omega)]; simp
      refine aw_rgd [(0,true),(1,true),(2,true),(3,true),(4,true),(5,true),(6,true),(7,true),(8,true),(9,true),(10,false),(11,true)] mixed rfl (by kernel_rfl) ?_
      simp only [go_sem, reduceIte, Nat.reduceEqDiff, Nat.reduceAdd, Nat.reduceMul, Nat.reduceSub, Nat.reduceLeDiff, Nat.reduceLT, reduceCtorEq, getD_map hi2, hgl, eAt, cAt, hg6, hw]
      refine ⟨⟨by omega, by omega, wid_eAt _⟩, ?_⟩
      refine goP_room hr3 ?_ fun t' H' hr' => ?_
      · exact ⟨rfl, rfl, by decide, wid_eAt _, wid_one rfl, sca_one rfl, by simp; omega, by simp; omega⟩
      have happ : (l ++ (kids l[i]).take j).map eAt ++ [cAt (l[i].1.args[j], l[i].2 + 1)] = (l ++ (kids l[i]).take (j + 1)).map eAt := by
        rw [kids_succ hj]; simp [eAt]
      simp only [go_sem, reduceIte, Nat.reduceEqDiff, Nat.reduceAdd, Nat.reduceMul, Nat.reduceSub, Nat.reduceLeDiff, Nat.reduceLT, reduceCtorEq, happ]
      obtain ⟨H4, hr4, hs4⟩ := hr'.pop (he.sub_none hb6)
      refine ⟨(nl2 && false, t', H4), hr4, ?_, hs4⟩
      simp only [go_sem, reduceIte, Nat.reduceEqDiff, Nat.reduceAdd, Nat.reduceMul, Nat.reduceSub, Nat.reduceLeDiff, Nat.reduceLT, reduceCtorEq]
    · intro ⟨nl2, t2, H2⟩ he
      simp only at he ⊢
      refine hK3 _ _ ?_
      refine aw_rg rfl ?_
      have hw : IntKind.i64.wrap ((i : Int) + 1) = ((i + 1 : Nat) : Int) := by rw [wrap64 (by omega) (by omega)]; simp
      have htk : (kids l[i]).take l[i].1.args.length = kids l[i] := List.take_of_length_le (by omega)
      simp only [go_sem, reduceIte, Nat.reduceEqDiff, Nat.reduceAdd, Nat.reduceMul, Nat.reduceSub, Nat.reduceLeDiff, Nat.reduceLT, reduceCtorEq, hw, htk]
      refine ⟨⟨⟨l ++ kids l[i], i + 1, nl2, t2, H2⟩, hnx, he⟩, ?_, ?_, fun _ _ h => h⟩
      · show v.sz - (i + 1) < v.sz - i; omega
      · simp only [go_sem, reduceIte, Nat.reduceEqDiff, Nat.reduceAdd, Nat.reduceMul, Nat.reduceSub, Nat.reduceLeDiff, Nat.reduceLT, reduceCtorEq]
  have hge : i = l.length := by
    have : ¬ (i : Int) < (l.length : Int) := by simpa using h
    omega
  refine aw_exit ?_
  refine hK1 _ _ ?_
  have hlen : l.length = v.sz := by rw [hge, List.drop_length] at hsz; simpa [szs] using hsz
  have hall : ∀ p : Val → Nat → Bool, l.all (fun x => p x.1 x.2) = allV p v 1 := fun p => by
    have := hbf.all p
    rw [hge, List.take_length, List.drop_length] at this
    simpa using this
  refine AW.of_hsub hr.sub ?_
  refine aw_seq fun K4 hK4 => ?_
  refine aw_sr rfl ?_
  simp only [go_sem, reduceIte, Nat.reduceEqDiff, Nat.reduceAdd, Nat.reduceMul, Nat.reduceSub, Nat.reduceLeDiff, Nat.reduceLT, reduceCtorEq]
  refine aw_range l.length (S := Unit) (fun _ _ => [(47, .sl (l.map eAt) nl t), (3, .sl (l.map eAt) nl t)]) (fun _ _ => G) (fun j _ => (l.take j).all (fun x => lim v.sz x.2 x.1.text.length) = true) () (by omega) ?_ (fun _ _ h => h) rfl rfl (fun _ _ => rfl) ?_ ?_ (by decide)
  · simp only [go_sem, reduceIte, Nat.reduceEqDiff, Nat.reduceAdd, Nat.reduceMul, Nat.reduceSub, Nat.reduceLeDiff, Nat.reduceLT, reduceCtorEq, Int.natCast_zero]
  · intro j _ hj he
    refine aw_sr rfl ?_
    simp only [go_sem, reduceIte, Nat.reduceEqDiff, Nat.reduceAdd, Nat.reduceMul, Nat.reduceSub, Nat.reduceLeDiff, Nat.reduceLT, reduceCtorEq, getD_map hj, eAt, cAt]
    refine ⟨⟨by omega, by omega, wid_eAt _⟩, fun b8 hb8 => ?_⟩
    refine aw_sr rfl ?_
    simp only [go_sem, reduceIte, Nat.reduceEqDiff, Nat.reduceAdd, Nat.reduceMul, Nat.reduceSub, Nat.reduceLeDiff, Nat.reduceLT, reduceCtorEq]
    have hc : (decide ((400 : Int) < (l.length : Int)) || decide ((40 : Int) < (l[j].2 : Int)) || decide ((4000 : Int) < (l[j].1.text.length : Int))) = !lim v.sz l[j].2 l[j].1.text.length := by
      rw [lim, Bool.not_not]
      congr 1
      · congr 1
        · exact decide_eq_decide.2 (by omega)
        · exact decide_eq_decide.2 (by omega)
      · exact decide_eq_decide.2 (by omega)
    refine aw_if rfl (fun h => ?_) (fun h => ?_)
    · refine aw_sr rfl ?_
      simp only [go_sem, reduceIte, Nat.reduceEqDiff, Nat.reduceAdd, Nat.reduceMul, Nat.reduceSub, Nat.reduceLeDiff, Nat.reduceLT, reduceCtorEq]
      refine aw_ret ⟨trivial, _, rfl, ?_, sub_tail hb8⟩
      have h' := hc.symm.trans h
      have hf : l.all (fun x => lim v.sz x.2 x.1.text.length) = false := all_not hj (by simpa using h')
      have hf2 : ¬ lim v.sz (1 + v.deep - 1) v.long = true := by rw [← all_large, ← hall (fun x d => lim v.sz d x.text.length), hf]; simp
      have hcl : ((decide (v.sz > 400) || decide (v.deep > 40)) || decide (v.long > 4000)) = true := by
        rw [Nat.add_sub_cancel_left, Bool.not_eq_true, lim, Bool.not_eq_false'] at hf2
        exact hf2
      rw [checkV, if_pos hcl]
      exact Vle.refl _
    · have h' := hc.symm.trans h
      refine aw_skip ⟨(), all_take_next he hj (by simpa using h'), ?_, sub_tail hb8⟩
      simp only [go_sem, reduceIte, Nat.reduceEqDiff, Nat.reduceAdd, Nat.reduceMul, Nat.reduceSub, Nat.reduceLeDiff, Nat.reduceLT, reduceCtorEq]
  intro _ hlim
  rw [List.take_length, hall (fun x d => lim v.sz d x.text.length), all_large, Nat.add_sub_cancel_left] at hlim
  have hcl : ¬ ((decide (v.sz > 400) || decide (v.deep > 40)) || decide (v.long > 4000)) = true := by
    rw [lim, Bool.not_eq_true'] at hlim; rw [hlim]; simp
  have hs4 : v.sz ≤ 400 := ((lim_iff _ _ _).1 hlim).1
  refine hK4 _ _ ?_
  refine aw_seq fun K5 hK5 => ?_
  refine aw_sr rfl ?_
  simp only [go_sem, reduceIte, Nat.reduceEqDiff, Nat.reduceAdd, Nat.reduceMul, Nat.reduceSub, Nat.reduceLeDiff, Nat.reduceLT, reduceCtorEq]
  refine aw_range l.length (S := Unit) (fun _ _ => [(69, .sl (l.map eAt) nl t)]) (fun _ _ => G) (fun j _ => (l.take j).all (fun x => nodeV x.1) = true) () (by omega) ?_ (fun _ _ h => h) rfl rfl (fun _ _ => rfl) ?_ ?_ (by decide)
  · simp only [go_sem, reduceIte, Nat.reduceEqDiff, Nat.reduceAdd, Nat.reduceMul, Nat.reduceSub, Nat.reduceLeDiff, Nat.reduceLT, reduceCtorEq, Int.natCast_zero]
  · intro j _ hj he
    obtain ⟨o1, o2, o3⟩ := hbf.ok _ (List.getElem_mem hj)
    have hal : l[j].1.args.length ≤ 400 := by have := szs_len l[j].1.args; have := l[j].1.sz_eq; omega
    have hbadr : nodeV l[j].1 = false → checkV v = 3 := fun hn => by
      have hf : l.all (fun x => nodeV x.1) = false := all_not hj hn
      rw [hall (fun x _ => nodeV x), all_node] at hf
      rw [checkV, if_neg hcl, if_pos hf]
    refine aw_sr rfl ?_
    simp only [go_sem, reduceIte, Nat.reduceEqDiff, Nat.reduceAdd, Nat.reduceMul, Nat.reduceSub, Nat.reduceLeDiff, Nat.reduceLT, reduceCtorEq, getD_map hj, eAt, cAt]
    refine ⟨⟨by omega, by omega, wid_eAt _⟩, fun b10 hb10 => ?_⟩
    refine aw_sr rfl ?_
    simp only [go_sem, reduceIte, Nat.reduceEqDiff, Nat.reduceAdd, Nat.reduceMul, Nat.reduceSub, Nat.reduceLeDiff, Nat.reduceLT, reduceCtorEq]
    refine aw_mid (fun f' G' => (FSub [(11, .str (hasF l[j].1)), (12, .int .i64 (mostF l[j].1)), (10, .ptr b10 0), (71, .int .i64 j), (70, .int .i64 l.length), (69, .sl (l.map eAt) nl t)] f' ∧ G' = (b10, .vars (cAt l[j])) :: G) ∧ (l[j].1.kind = 1 ∨ (l[j].1.kind = 2 ∨ l[j].1.kind = 6) ∨ l[j].1.kind = 3 ∨ l[j].1.kind = 4 ∨ l[j].1.kind = 5 ∨ l[j].1.kind = 7 ∨ l[j].1.kind = 8) ∧ (l[j].1.kind = 5 → ¬ l[j].1.text = [])) ?_ ?_
    · refine aw_sr rfl ?_
      simp only [go_sem, reduceIte, Nat.reduceEqDiff, Nat.reduceAdd, Nat.reduceMul, Nat.reduceSub, Nat.reduceLeDiff, Nat.reduceLT, reduceCtorEq]
      refine aw_block ?_
      refine aw_sr rfl ?_
      simp only [go_sem, reduceIte, Nat.reduceEqDiff, Nat.reduceAdd, Nat.reduceMul, Nat.reduceSub, Nat.reduceLeDiff, Nat.reduceLT, reduceCtorEq]
      refine aw_if rfl (fun h => ?_) (fun h => ?_)
      · have k : l[j].1.kind = 1 := by simpa using h
        have hh : hasF l[j].1 = [] := by simp [hasF, k]
        have hm : mostF l[j].1 = 0 := by simp [mostF, k]
        refine aw_skip ⟨⟨?_, rfl⟩, .inl k, fun e => by omega⟩
        simp only [go_sem, reduceIte, Nat.reduceEqDiff, Nat.reduceAdd, Nat.reduceMul, Nat.reduceSub, Nat.reduceLeDiff, Nat.reduceLT, reduceCtorEq, hh, hm]
      have k1 : ¬ l[j].1.kind = 1 := by simpa using h
      refine aw_mid (fun f' G' => FSub [(80, .bool (decide (l[j].1.kind = 2) || decide (l[j].1.kind = 6))), (77, .int .i64 l[j].1.kind), (11, .str []), (12, .int .i64 0), (10, .ptr b10 0), (71, .int .i64 j), (70, .int .i64 l.length), (69, .sl (l.map eAt) nl t)] f' ∧ G' = (b10, .vars (cAt l[j])) :: G) ?_ ?_
      · refine aw_sr rfl ?_
        simp only [go_sem, reduceIte, Nat.reduceEqDiff, Nat.reduceAdd, Nat.reduceMul, Nat.reduceSub, Nat.reduceLeDiff, Nat.reduceLT, reduceCtorEq]
        refine aw_if rfl (fun h => ?_) (fun h => ?_)
        · refine aw_skip ⟨?_, rfl⟩
          simp only [go_sem, reduceIte, Nat.reduceEqDiff, Nat.reduceAdd, Nat.reduceMul, Nat.reduceSub, Nat.reduceLeDiff, Nat.reduceLT, reduceCtorEq, h, Bool.true_or]
        · refine aw_rg rfl ?_
          simp only [go_sem, reduceIte, Nat.reduceEqDiff, Nat.reduceAdd, Nat.reduceMul, Nat.reduceSub, Nat.reduceLeDiff, Nat.reduceLT, reduceCtorEq, h, Bool.false_or]
          refine ⟨?_, rfl⟩
          simp only [go_sem, reduceIte, Nat.reduceEqDiff, Nat.reduceAdd, Nat.reduceMul, Nat.reduceSub, Nat.reduceLeDiff, Nat.reduceLT, reduceCtorEq]
      rintro f' G' ⟨hf, rfl⟩
      refine AW.of_fsub hf ?_
      refine aw_if rfl (fun h => ?_) (fun h => ?_)
      · have k : l[j].1.kind = 2 ∨ l[j].1.kind = 6 := by simpa using h
        have k3 : ¬ l[j].1.kind = 5 := by omega
        have k4 : ¬ l[j].1.kind = 7 := by omega
        have k5 : ¬ l[j].1.kind = 8 := by omega
        have hh : hasF l[j].1 = [110] := by simp [hasF, k, k3, k4, k5]
        have hm : mostF l[j].1 = 0 := by simp [mostF, k, k3, k4, k5]
        refine aw_rg rfl ?_
        simp only [go_sem, reduceIte, Nat.reduceEqDiff, Nat.reduceAdd, Nat.reduceMul, Nat.reduceSub, Nat.reduceLeDiff, Nat.reduceLT, reduceCtorEq]
        refine ⟨⟨?_, rfl⟩, .inr (.inl k), fun e => by omega⟩
        simp only [go_sem, reduceIte, Nat.reduceEqDiff, Nat.reduceAdd, Nat.reduceMul, Nat.reduceSub, Nat.reduceLeDiff, Nat.reduceLT, reduceCtorEq, hh, hm]
      have k2 : ¬ (l[j].1.kind = 2 ∨ l[j].1.kind = 6) := by
        intro e
        have h' : decide (l[j].1.kind = 2) = false ∧ decide (l[j].1.kind = 6) = false := by simpa using h
        simp only [decide_eq_false_iff_not] at h'
        omega
      refine aw_sr rfl ?_
      simp only [go_sem, reduceIte, Nat.reduceEqDiff, Nat.reduceAdd, Nat.reduceMul, Nat.reduceSub, Nat.reduceLeDiff, Nat.reduceLT, reduceCtorEq]
      refine aw_if rfl (fun h => ?_) (fun h => ?_)
      · have k : l[j].1.kind = 3 := by simpa using h
        refine aw_sr rfl ?_
        simp only [go_sem, reduceIte, Nat.reduceEqDiff, Nat.reduceAdd, Nat.reduceMul, Nat.reduceSub, Nat.reduceLeDiff, Nat.reduceLT, reduceCtorEq]
        refine aw_if rfl (fun h => ?_) (fun h => ?_)
        · have hn : l[j].1.num = 1 := by simpa using h
          have hh : hasF l[j].1 = [110] := by simp [hasF, k, hn]
          have hm : mostF l[j].1 = 0 := by simp [mostF, k, hn]
          refine aw_rg rfl ?_
          simp only [go_sem, reduceIte, Nat.reduceEqDiff, Nat.reduceAdd, Nat.reduceMul, Nat.reduceSub, Nat.reduceLeDiff, Nat.reduceLT, reduceCtorEq]
          refine ⟨⟨?_, rfl⟩, .inr (.inr (.inl k)), fun e => by omega⟩
          simp only [go_sem, reduceIte, Nat.reduceEqDiff, Nat.reduceAdd, Nat.reduceMul, Nat.reduceSub, Nat.reduceLeDiff, Nat.reduceLT, reduceCtorEq, hh, hm]
        · have hn : ¬ l[j].1.num = 1 := by simpa using h
          have hh : hasF l[j].1 = [] := by simp [hasF, k, hn]
          have hm : mostF l[j].1 = 0 := by simp [mostF, k, hn]
          refine aw_skip ⟨⟨?_, rfl⟩, .inr (.inr (.inl k)), fun e => by omega⟩
          simp only [go_sem, reduceIte, Nat.reduceEqDiff, Nat.reduceAdd, Nat.reduceMul, Nat.reduceSub, Nat.reduceLeDiff, Nat.reduceLT, reduceCtorEq, hh, hm]
      have k3 : ¬ l[j].1.kind = 3 := by simpa using h
      refine aw_sr rfl ?_
      simp only [go_sem, reduceIte, Nat.reduceEqDiff, Nat.reduceAdd, Nat.reduceMul, Nat.reduceSub, Nat.reduceLeDiff, Nat.reduceLT, reduceCtorEq]
      refine aw_if rfl (fun h => ?_) (fun h => ?_)
      · have k : l[j].1.kind = 4 := by simpa using h
        have hh : hasF l[j].1 = [116] := by simp [hasF, k]
        have hm : mostF l[j].1 = 0 := by simp [mostF, k]
        refine aw_rg rfl ?_
        simp only [go_sem, reduceIte, Nat.reduceEqDiff, Nat.reduceAdd, Nat.reduceMul, Nat.reduceSub, Nat.reduceLeDiff, Nat.reduceLT, reduceCtorEq]
        refine ⟨⟨?_, rfl⟩, .inr (.inr (.inr (.inl k))), fun e => by omega⟩
        simp only [go_sem, reduceIte, Nat.reduceEqDiff, Nat.reduceAdd, Nat.reduceMul, Nat.reduceSub, Nat.reduceLeDiff, Nat.reduceLT, reduceCtorEq, hh, hm]
      have k4 : ¬ l[j].1.kind = 4 := by simpa using h
      refine aw_sr rfl ?_
      simp only [go_sem, reduceIte, Nat.reduceEqDiff, Nat.reduceAdd, Nat.reduceMul, Nat.reduceSub, Nat.reduceLeDiff, Nat.reduceLT, reduceCtorEq]
      refine aw_if rfl (fun h => ?_) (fun h => ?_)
      · have k : l[j].1.kind = 5 := by simpa using h
        refine aw_seq fun K7 hK7 => ?_
        refine aw_sr rfl ?_
        simp only [go_sem, reduceIte, Nat.reduceEqDiff, Nat.reduceAdd, Nat.reduceMul, Nat.reduceSub, Nat.reduceLeDiff, Nat.reduceLT, reduceCtorEq]
        refine aw_if rfl (fun h => ?_) (fun h => ?_)
        · have ht : l[j].1.text = [] := by simpa using h
          refine aw_sr rfl ?_
          simp only [go_sem, reduceIte, Nat.reduceEqDiff, Nat.reduceAdd, Nat.reduceMul, Nat.reduceSub, Nat.reduceLeDiff, Nat.reduceLT, reduceCtorEq]
          refine aw_ret ⟨trivial, _, rfl, ?_, sub_tail hb10⟩
          rw [hbadr (by simp [nodeV, k, ht])]
          exact Vle.refl _
        · have ht : ¬ l[j].1.text = [] := by simpa using h
          refine aw_skip (hK7 _ _ ?_)
          have hh : hasF l[j].1 = [116] := by simp [hasF, k]
          have hm : mostF l[j].1 = 400 := by simp [mostF, k]
          refine aw_rg rfl ?_
          simp only [go_sem, reduceIte, Nat.reduceEqDiff, Nat.reduceAdd, Nat.reduceMul, Nat.reduceSub, Nat.reduceLeDiff, Nat.reduceLT, reduceCtorEq]
          refine ⟨⟨?_, rfl⟩, .inr (.inr (.inr (.inr (.inl k)))), fun _ => ht⟩
          simp only [go_sem, reduceIte, Nat.reduceEqDiff, Nat.reduceAdd, Nat.reduceMul, Nat.reduceSub, Nat.reduceLeDiff, Nat.reduceLT, reduceCtorEq, hh, hm]
      have k5 : ¬ l[j].1.kind = 5 := by simpa using h
      refine aw_sr rfl ?_
      simp only [go_sem, reduceIte, Nat.reduceEqDiff, Nat.reduceAdd, Nat.reduceMul, Nat.reduceSub, Nat.reduceLeDiff, Nat.reduceLT, reduceCtorEq]
      refine aw_if rfl (fun h => ?_) (fun h => ?_)
      · have k : l[j].1.kind = 7 := by simpa using h
        have hh : hasF l[j].1 = [110, 116] := by simp [hasF, k]
        have hm : mostF l[j].1 = 400 := by simp [mostF, k]
        refine aw_rg rfl ?_
        simp only [go_sem, reduceIte, Nat.reduceEqDiff, Nat.reduceAdd, Nat.reduceMul, Nat.reduceSub, Nat.reduceLeDiff, Nat.reduceLT, reduceCtorEq]
        refine ⟨⟨?_, rfl⟩, .inr (.inr (.inr (.inr (.inr (.inl k))))), fun e => by omega⟩
        simp only [go_sem, reduceIte, Nat.reduceEqDiff, Nat.reduceAdd, Nat.reduceMul, Nat.reduceSub, Nat.reduceLeDiff, Nat.reduceLT, reduceCtorEq, hh, hm]
      have k7 : ¬ l[j].1.kind = 7 := by simpa using h
      refine aw_sr rfl ?_
      simp only [go_sem, reduceIte, Nat.reduceEqDiff, Nat.reduceAdd, Nat.reduceMul, Nat.reduceSub, Nat.reduceLeDiff, Nat.reduceLT, reduceCtorEq]
      refine aw_if rfl (fun h => ?_) (fun h => ?_)
      · have k : l[j].1.kind = 8 := by simpa using h
        have hh : hasF l[j].1 = [] := by simp [hasF, k]
        have hm : mostF l[j].1 = 1 := by simp [mostF, k]
        refine aw_rg rfl ?_
        simp only [go_sem, reduceIte, Nat.reduceEqDiff, Nat.reduceAdd, Nat.reduceMul, Nat.reduceSub, Nat.reduceLeDiff, Nat.reduceLT, reduceCtorEq]
        refine ⟨⟨?_, rfl⟩, .inr (.inr (.inr (.inr (.inr (.inr k))))), fun e => by omega⟩
        simp only [go_sem, reduceIte, Nat.reduceEqDiff, Nat.reduceAdd, Nat.reduceMul, Nat.reduceSub, Nat.reduceLeDiff, Nat.reduceLT, reduceCtorEq, hh, hm]
      have k8 : ¬ l[j].1.kind = 8 := by simpa using h
      refine aw_sr rfl ?_
      simp only [go_sem, reduceIte, Nat.reduceEqDiff, Nat.reduceAdd, Nat.reduceMul, Nat.reduceSub, Nat.reduceLeDiff, Nat.reduceLT, reduceCtorEq]
      refine aw_ret ⟨trivial, _, rfl, ?_, sub_tail hb10⟩
      rw [hbadr (by simp [nodeV, k1, k2, k3, k4, k5, k7, k8])]
      exact Vle.refl _
    · rintro f' G' ⟨⟨hf, rfl⟩, hk, hk5⟩
      have hnode := badN_node hk hk5 hal
      refine AW.of_fsub hf ?_
      have hhl : (hasF l[j].1).length ≤ 1048576 := by unfold hasF; (repeat' split) <;> simp
      refine aw_sr rfl ?_
      simp only [go_sem, reduceIte, Nat.reduceEqDiff, Nat.reduceAdd, Nat.reduceMul, Nat.reduceSub, Nat.reduceLeDiff, Nat.reduceLT, reduceCtorEq]
      refine goA_q (q_ContainsB _ _ _ _ hhl) ?_
      simp only [go_sem, reduceIte, Nat.reduceEqDiff, Nat.reduceAdd, Nat.reduceMul, Nat.reduceSub, Nat.reduceLeDiff, Nat.reduceLT, reduceCtorEq]
      refine goA_q (q_ContainsB _ _ _ _ hhl) ?_
      simp only [go_sem, reduceIte, Nat.reduceEqDiff, Nat.reduceAdd, Nat.reduceMul, Nat.reduceSub, Nat.reduceLeDiff, Nat.reduceLT, reduceCtorEq]
      refine aw_sr rfl ?_
      simp only [go_sem, reduceIte, Nat.reduceEqDiff, Nat.reduceAdd, Nat.reduceMul, Nat.reduceSub, Nat.reduceLeDiff, Nat.reduceLT, reduceCtorEq]
      refine aw_if rfl (fun h => ?_) (fun h => ?_)
      · refine aw_sr rfl ?_
        simp only [go_sem, reduceIte, Nat.reduceEqDiff, Nat.reduceAdd, Nat.reduceMul, Nat.reduceSub, Nat.reduceLeDiff, Nat.reduceLT, reduceCtorEq]
        refine aw_ret ⟨trivial, _, rfl, ?_, sub_tail hb10⟩
        have hx : badN l[j].1 = true := by simpa [badN] using h
        rw [hbadr (by rw [hnode] at hx; simpa using hx)]
        exact Vle.refl _
      · have hx : badN l[j].1 = false := by simpa [badN] using h
        refine aw_skip ⟨(), all_take_next he hj (by rw [hnode] at hx; simpa using hx), ?_, sub_tail hb10⟩
        simp only [go_sem, reduceIte, Nat.reduceEqDiff, Nat.reduceAdd, Nat.reduceMul, Nat.reduceSub, Nat.reduceLeDiff, Nat.reduceLT, reduceCtorEq]
  · intro _ he
    rw [List.take_length, hall (fun x _ => nodeV x), all_node] at he
    refine hK5 _ _ ?_
    refine aw_sr rfl ?_
    simp only [go_sem, reduceIte, Nat.reduceEqDiff, Nat.reduceAdd, Nat.reduceMul, Nat.reduceSub, Nat.reduceLeDiff, Nat.reduceLT, reduceCtorEq]
    refine aw_ret ⟨trivial, _, rfl, ?_, fun _ _ h => h⟩
    rw [checkV, if_neg hcl, if_neg (by rw [he]; simp)]
    exact Vle.refl _
end Go.Proofs.Ytkhgcikaojhknaa

set_option linter.unusedSimpArgs false
set_option linter.unusedVariables false
namespace Go.Proofs.Ytkhgcikaojhknaa
open Go.Proofs.YtkhgcikaojhknaaV
set_option maxHeartbeats 400000
set_option maxRecDepth 100000
theorem q_ValueBytes (v : Val) (ho : oVal v) : Quiet Try.prog 131 [.agg (cV v)] (pairB (bytesF v)) := by
  refine Quiet.weak fun G => ?_
  refine acall_body (rs := [.tmp 2, .tmp 3]) Try.func131 rfl rfl Try.ntmps131 (by kernel_rfl) (Nat.le_of_ble_eq_true rfl) ?_
  refine aw_sr rfl ?_
  simp only [go_sem, reduceIte, Nat.reduceEqDiff, Nat.reduceAdd, Nat.reduceMul, Nat.reduceSub, Nat.reduceLeDiff, Nat.reduceLT, reduceCtorEq]
  intro b1 hb1
  refine aw_seq fun K3 hK3 => ?_
  refine aw_sr rfl ?_
  simp only [go_sem, reduceIte, Nat.reduceEqDiff, Nat.reduceAdd, Nat.reduceMul, Nat.reduceSub, Nat.reduceLeDiff, Nat.reduceLT, reduceCtorEq]
  refine goA_q (q_ValueFault v ho) ?_
  simp only [go_sem, reduceIte, Nat.reduceEqDiff, Nat.reduceAdd, Nat.reduceMul, Nat.reduceSub, Nat.reduceLeDiff, Nat.reduceLT, reduceCtorEq]
  refine aw_sr rfl ?_
  simp only [go_sem, reduceIte, Nat.reduceEqDiff, Nat.reduceAdd, Nat.reduceMul, Nat.reduceSub, Nat.reduceLeDiff, Nat.reduceLT, reduceCtorEq]
  refine aw_if rfl (fun h => ?_) (fun h => ?_)
  · refine aw_sr rfl ?_
    simp only [go_sem, reduceIte, Nat.reduceEqDiff, Nat.reduceAdd, Nat.reduceMul, Nat.reduceSub, Nat.reduceLeDiff, Nat.reduceLT, reduceCtorEq]
    refine aw_ret ⟨trivial, _, rfl, ?_, sub_tail hb1⟩
    rw [bytesF, if_pos (by simpa using h)]
    exact Vle.tupL (.cons Vle.untag (.cons (Vle.refl _) .nil))
  · have hc : checkV v = 0 := by simpa using h
    have hlen := enc_small ho.1 hc
    refine aw_skip (hK3 _ _ ?_)
    refine aw_sr rfl ?_
    simp only [go_sem, reduceIte, Nat.reduceEqDiff, Nat.reduceAdd, Nat.reduceMul, Nat.reduceSub, Nat.reduceLeDiff, Nat.reduceLT, reduceCtorEq]
    refine goA_q (q_valueText0 _ v (Nat.le_refl _) ho.1 (by omega)) ?_
    simp only [go_sem, reduceIte, Nat.reduceEqDiff, Nat.reduceAdd, Nat.reduceMul, Nat.reduceSub, Nat.reduceLeDiff, Nat.reduceLT, reduceCtorEq]
    refine aw_ret ⟨trivial, _, rfl, ?_, sub_tail hb1⟩
    rw [bytesF, if_neg (by simpa using hc)]
    exact Vle.refl _
namespace valueWritten
end valueWritten
end Go.Proofs.Ytkhgcikaojhknaa

/- ValueOf: as Read. No conditions. -/
set_option linter.unusedSimpArgs false
set_option linter.unusedVariables false
namespace Go.Proofs.Ytkhgcikaojhknaa
open Go.Proofs.YtkhgcikaojhknaaV
set_option maxHeartbeats 400000
set_option maxRecDepth 100000
theorem q_ValueOf (b : List UInt8) (nl : Bool) (hb : b.length ≤ bulk) : Quiet Try.prog 64 [.sl (bytesV b) nl .no] (pairV (readF b)) := by
  have hbl : b.length ≤ 1048576 := hb
  refine Quiet.weak fun G => ?_
  refine acall_body (rs := [.cell 2 83, .tmp 3]) Try.func64 rfl rfl Try.ntmps64 (by kernel_rfl) (Nat.le_of_ble_eq_true rfl) ?_
  refine aw_sr rfl ?_  -- r0
  simp only [go_sem, reduceIte, Nat.reduceEqDiff, Nat.reduceAdd, Nat.reduceMul, Nat.reduceSub, Nat.reduceLeDiff, Nat.reduceLT, reduceCtorEq]
  intro b2 hb2
  refine aw_box1 hb2 fun B1 hs1 h2 => ?_
  refine aw_seq fun K1 hK1 => ?_
  refine aw_sr rfl ?_  -- r1
  simp only [go_sem, reduceIte, Nat.reduceEqDiff, Nat.reduceAdd, Nat.reduceMul, Nat.reduceSub, Nat.reduceLeDiff, Nat.reduceLT, reduceCtorEq]
  refine aw_if rfl (fun h => by simp at h; omega) (fun h => ?_)
  refine aw_skip (hK1 _ _ ?_)
  refine aw_sr rfl ?_  -- r3
  simp only [go_sem, reduceIte, Nat.reduceEqDiff, Nat.reduceAdd, Nat.reduceMul, Nat.reduceSub, Nat.reduceLeDiff, Nat.reduceLT, reduceCtorEq]
  intro br hbr
  have ne2 : ¬ b2 = br := fun e => ne_fresh h2 hbr e
  have hGr : hget G br = none := by
    cases e : hget G br with
    | none => rfl
    | some o => have := hs1 _ _ e; rw [hbr] at this; cases this
  refine aw_box1 hbr fun B2 hs2 hR => ?_
  replace h2 := hs2 _ _ h2
  refine aw_sr rfl ?_  -- r4
  simp only [go_sem, reduceIte, Nat.reduceEqDiff, Nat.reduceAdd, Nat.reduceMul, Nat.reduceSub, Nat.reduceLeDiff, Nat.reduceLT, reduceCtorEq]
  refine goA_by (a_whole br nl b true B2 (by omega) hR) fun y G1 hy => ?_
  obtain ⟨v, rest', ok', hv, rfl, j1, jk, j3, j6⟩ := hy
  have h22 := jk _ _ ne2 h2
  have hsG : Sub G G1 := fun x o hx => jk _ _ (fun e => by rw [e, hGr] at hx; cases hx) (hs2 _ _ (hs1 _ _ hx))
  simp only [go_sem, reduceIte, Nat.reduceEqDiff, Nat.reduceAdd, Nat.reduceMul, Nat.reduceSub, Nat.reduceLeDiff, Nat.reduceLT, reduceCtorEq]
  intro b5 hb5
  refine aw_box1 hb5 fun B3 hs3 h5 => ?_
  have h23 := hs3 _ _ h22
  have j13 : hget B3 br = some (.vars [.sl (bytesV rest') nl .no, .bool ok']) := hs3 _ _ j1
  replace hsG := sub_trans hsG hs3
  refine aw_sr rfl ?_  -- r5
  simp only [go_sem, reduceIte, Nat.reduceEqDiff, Nat.reduceAdd, Nat.reduceMul, Nat.reduceSub, Nat.reduceLeDiff, Nat.reduceLT, reduceCtorEq, h5]
  refine goA_q (q_ValueBytes v (hv.obulk j3)) ?_
  simp only [go_sem, reduceIte, Nat.reduceEqDiff, Nat.reduceAdd, Nat.reduceMul, Nat.reduceSub, Nat.reduceLeDiff, Nat.reduceLT, reduceCtorEq]
  refine aw_seq fun K2 hK2 => ?_
  refine aw_sr rfl ?_  -- r6
  simp only [go_sem, reduceIte, Nat.reduceEqDiff, Nat.reduceAdd, Nat.reduceMul, Nat.reduceSub, Nat.reduceLeDiff, Nat.reduceLT, reduceCtorEq, j13]
  refine aw_if rfl (fun h => ?_) (fun h => ?_)
  · refine aw_sr rfl ?_  -- r7
    simp only [go_sem, reduceIte, Nat.reduceEqDiff, Nat.reduceAdd, Nat.reduceMul, Nat.reduceSub, Nat.reduceLeDiff, Nat.reduceLT, reduceCtorEq, h23]
    have h24 := hget_hset_self (y := .vars [.int .i64 0, .int .i64 0, .str [], .sl [] true .full]) h23
    refine aw_ret ⟨trivial, ?_⟩
    simp only [go_sem, reduceIte, Nat.reduceEqDiff, Nat.reduceAdd, Nat.reduceMul, Nat.reduceSub, Nat.reduceLeDiff, Nat.reduceLT, reduceCtorEq, resL, resOf, h24]
    refine ⟨_, rfl, ?_, sub_hset_fresh hb2 hsG⟩
    rw [readF_no]
    · exact Vle.tupL (.cons (Vle.aggL (.cons (Vle.refl _) (.cons (Vle.refl _) (.cons (Vle.refl _) (.cons Vle.untag .nil))))) (.cons (Vle.refl _) .nil))
    · intro x hx hxb
      obtain ⟨q1, q2, q3⟩ := j6 x [] (by rw [List.append_nil]; exact hxb.symm) hx.1 hx.small.2 hx.small.1 rfl
      subst q1
      refine absurd h ?_
      rw [bytesF, if_neg (by rw [hx.2]; simp)]
      simp [q2, q3, hxb]
  refine aw_skip (hK2 _ _ ?_)
  refine aw_sr rfl ?_  -- r8
  simp only [go_sem, reduceIte, Nat.reduceEqDiff, Nat.reduceAdd, Nat.reduceMul, Nat.reduceSub, Nat.reduceLeDiff, Nat.reduceLT, reduceCtorEq, h23, h5]
  have h24 := hget_hset_self (y := .vars (cV v)) h23
  refine aw_ret ⟨trivial, ?_⟩
  simp only [go_sem, reduceIte, Nat.reduceEqDiff, Nat.reduceAdd, Nat.reduceMul, Nat.reduceSub, Nat.reduceLeDiff, Nat.reduceLT, reduceCtorEq, resL, resOf, h24]
  refine ⟨_, rfl, ?_, sub_hset_fresh hb2 hsG⟩
  have hd : ok' = true ∧ rest' = [] ∧ (bytesF v).2 = 0 ∧ (bytesF v).1.1 = b := by
    have hr : decide ((0 : Int) < ((rest'.length : Nat) : Int)) = decide (¬ rest' = []) := by
      cases rest' with
      | nil => rfl
      | cons x l => rw [decide_eq_true (p := (0 : Int) < (((x :: l).length : Nat) : Int)) (by rw [List.length_cons]; omega), decide_eq_true (p := ¬ x :: l = []) (by simp)]
    simp only [hr] at h
    by_cases g1 : ok' = true <;> by_cases g2 : rest' = [] <;> by_cases g3 : (bytesF v).2 = 0 <;> by_cases g4 : (bytesF v).1.1 = b <;> simp [g1, g2, g3, g4] at h ⊢
  obtain ⟨d1, d2, d3, d4⟩ := hd
  have hc : checkV v = 0 := by
    by_cases hc : checkV v = 0
    · exact hc
    · rw [bytesF, if_pos hc] at d3; exact absurd d3 hc
  rw [bytesF, if_neg (by rw [hc]; simp)] at d4
  rw [readF_yes (v := v)]
  · exact Vle.refl _
  · exact ⟨hv, hc⟩
  · exact d4
  · intro x hx hxb
    exact (j6 x [] (by rw [List.append_nil]; exact hxb.symm) hx.1 hx.small.2 hx.small.1 rfl).1
theorem readF_ok (b : List UInt8) : OkVal (readF b).1 := by
  unfold readF
  split
  · rename_i h; exact h.choose_spec.1.1.ok
  · exact Fine.zero.ok
namespace valueRead
theorem law (x : List UInt8 × Bool) (hx : (x.2 = true → x.1 = []) ∧ x.1.length ≤ bulk) : Quiet Try.prog 8 [.sl (bytesV x.1) x.2 .no] (.bool true) := by
  obtain ⟨b, nl⟩ := x
  have hb : b.length ≤ bulk := hx.2
  refine Quiet.weak fun G => ?_
  refine acall_body (rs := [.tmp 2]) Try.func8 rfl rfl Try.ntmps8 (by kernel_rfl) (Nat.le_of_ble_eq_true rfl) ?_
  refine aw_sr rfl ?_  -- r0 @low.go:62
  simp only [go_sem, reduceIte, Nat.reduceEqDiff, Nat.reduceAdd, Nat.reduceMul, Nat.reduceSub, Nat.reduceLeDiff, Nat.reduceLT, reduceCtorEq]
  refine aw_sr rfl ?_  -- r1 @low.go:63
  simp only [go_sem, reduceIte, Nat.reduceEqDiff, Nat.reduceAdd, Nat.reduceMul, Nat.reduceSub, Nat.reduceLeDiff, Nat.reduceLT, reduceCtorEq]
  refine goA_q (q_Read b nl hb) ?_
  simp only [go_sem, reduceIte, Nat.reduceEqDiff, Nat.reduceAdd, Nat.reduceMul, Nat.reduceSub, Nat.reduceLeDiff, Nat.reduceLT, reduceCtorEq]
  intro b3 hb3
  refine aw_box1 hb3 fun B1 hs1 h3 => ?_
  have hsB := hs1
  refine aw_sr rfl ?_  -- r2 @low.go:64
  simp only [go_sem, reduceIte, Nat.reduceEqDiff, Nat.reduceAdd, Nat.reduceMul, Nat.reduceSub, Nat.reduceLeDiff, Nat.reduceLT, reduceCtorEq]
  refine goA_q (q_ValueOf b nl hb) ?_
  simp only [go_sem, reduceIte, Nat.reduceEqDiff, Nat.reduceAdd, Nat.reduceMul, Nat.reduceSub, Nat.reduceLeDiff, Nat.reduceLT, reduceCtorEq]
  intro b5 hb5
  refine aw_box1 hb5 fun B2 hs2 h5 => ?_
  replace h3 := hs2 _ _ h3
  replace hsB := sub_trans hsB hs2
  refine aw_sr rfl ?_  -- r3 @low.go:65
  simp only [go_sem, reduceIte, Nat.reduceEqDiff, Nat.reduceAdd, Nat.reduceMul, Nat.reduceSub, Nat.reduceLeDiff, Nat.reduceLT, reduceCtorEq, h3, h5]
  refine goA_q q_live ?_
  simp only [go_sem, reduceIte, Nat.reduceEqDiff, Nat.reduceAdd, Nat.reduceMul, Nat.reduceSub, Nat.reduceLeDiff, Nat.reduceLT, reduceCtorEq, h3, h5]
  refine goH_q (fun hg => q_sameValue (readF b).1 (readF b).1 (readF_ok b)) ?_
  simp only [go_sem, reduceIte, Nat.reduceEqDiff, Nat.reduceAdd, Nat.reduceMul, Nat.reduceSub, Nat.reduceLeDiff, Nat.reduceLT, reduceCtorEq, h3, h5]
  refine aw_ret ⟨trivial, _, rfl, ?_, hsB⟩
  show Vle (.bool _) (.bool true)
  simp [sameV_refl]
  exact Vle.refl _
end valueRead
end Go.Proofs.Ytkhgcikaojhknaa

/- 'roadlaw5.ValueRead' returns true for every input whose bulk is at most 1048576 values and letters (the statement's own bound): a value is read of bytes as the document says, whatever the bytes. No other condition. -/
set_option linter.unusedSimpArgs false
set_option linter.unusedVariables false
set_option maxRecDepth 100000
namespace Go.Proofs.Ytkhgcikaojhknaa.valueRead
open Go.ChangeShapes Go.WideShapes Go.ChangeAt Go.RowKit
open Go.Proofs.YtkhgcikaojhknaaV
theorem own : ownKnob Try.prog.godebug = none := by kernel_rfl
theorem laidOut : laidOutB Try.prog = true := by kernel_rfl
theorem uBool : Try.prog.underlying 4 = some .bool := by kernel_rfl
theorem typed {xs : List V} (h : TyAll Try.prog [30] xs) (hs : vszL xs ≤ 1048576) : Quiet Try.prog 8 xs (.bool true) := by
  obtain ⟨x0, rfl, q0⟩ := args h hs
  exact law x0 q0
theorem contract (H : Type) (enc : TypeId × Value → H) (W : World) (base : Nat) (args : Array Value) (ds gs : List (DataW H)) (before : List MemPlace)
    (hval : ∀ (j : Nat) t v, Try.f8.params[j]? = some t → args[j]? = some v → Value.okWide Try.prog W .any base t v)
    (hW : DataW.Whole enc Try.prog Try.f8.params.toList Rows.valueReadSpec.vars false W args.toList ds gs before) (hk : Rows.uptoSmall H (ds ++ gs) = true) :
    Calls Try.prog 8 args W fun e W' => ∃ v, e = .returned v ∧ Rows.valueReadSpec.post enc Try.prog Try.f8 false true false false W args v W' := by
  have hW' := hW
  obtain ⟨p, q, hA0, hV, rfl, hfz, hnd⟩ := hW
  have hA : DataW.TrodAll enc Try.prog W 0 (fun _ => true) true Try.f8.params.toList args.toList ds p := hA0
  obtain ⟨rfl, rfl⟩ := trodVars_none hV
  rw [Try.params8] at hA hval
  obtain ⟨xs, hr, ht, hs⟩ := trod_all (fun j t v hj hv => hval j t v (by simpa using hj) (by simpa using hv)) hA
  have hk' : Rows.uptoBulkAll (ds ++ []) ≤ 1048576 := of_decide_eq_true hk
  rw [List.append_nil] at hk'
  have hq := typed ht (Nat.le_trans hs hk')
  refine (ACall.calls (hq []) Try.func8 rfl rfl hr).mono fun e W' ⟨v, he, bel, M', x, G', hx, hxe, _⟩ => ?_
  subst hxe
  have hv := hx.bool_inv
  subst he hv
  have hst := trod_stays laidOut bel (by kernel_rfl) hA
  obtain ⟨v0, vs0, d0, ds0, p0, q0, hargs, rfl, rfl, h0, r0⟩ := trodAll_cons hA
  obtain ⟨rfl, rfl, rfl⟩ := trodAll_nil r0
  exact ⟨_, rfl, _, _, _, [], _, [], hW', trodAll_mk1 (shut_bool uBool _), hst, rfl, bel.frame _, fun h => by cases h⟩
set_option maxRecDepth 100000 in
theorem lifted (os : Os) (started : os.Started) (H : Type) (enc : TypeId × Value → H) (F : Stop.Interp) :
    ReturnsInHanded {} Try.checked os 8 .any ((Rows.OpenSpec.upto Rows.valueReadSpec).pre6 enc Try.prog Try.f8 Rows.valueReadUptoRow.domain false) (((Rows.OpenSpec.upto Rows.valueReadSpec).at F).post enc Try.prog Try.f8 false true false false) := by
  refine returnsInHanded_of_cond (C := Try.checked) (s := Rows.OpenSpec.upto Rows.valueReadSpec) (k := Rows.uptoSmall) rfl own started (by kernel_rfl) Try.func8
    (OpenSpec.witness (enc := enc) (C := Try.checked) (s := Rows.OpenSpec.upto Rows.valueReadSpec) (k := Rows.uptoSmall) rfl false ⟨#[], #[(.slice none 0 0)], []⟩ 8 (by kernel_rfl) (by kernel_rfl) (by kernel_rfl)
      (x := ([.nil], [], [])) (by kernel_rfl) rfl (by kernel_rfl)) ?_
  intro W base args ds gs before hval hW _ hk _
  exact contract H enc W base args ds gs before hval hW hk
set_option maxHeartbeats 4000000 in
theorem joined : joinedFacts Try.pinned.checked.prog 8 Try.f8 (Rows.OpenSpec.upto Rows.valueReadSpec).bare Rows.valueReadUptoRow = true := by
  unfold joinedFacts
  simp only [Bool.and_eq_true]
  repeat' apply And.intro
  all_goals (as_aux_lemma => kernel_rfl)
theorem over : Rows.valueReadUptoRow.holds Try.pinned (Rows.OpenSpec.upto Rows.valueReadSpec) :=
  OpenClaim.holds_of_cond 8 Try.f8 rfl rfl rfl rfl rfl rfl rfl ⟨rfl, rfl, rfl, rfl, rfl⟩ rfl rfl rfl rfl rfl (by kernel_rfl) Try.func8 joined
    (of_decide_eq_true (by kernel_rfl)) (by unfold Func.isWrapper; first | (rw [if_pos (by decide +kernel)]; kernel_rfl) | (rw [if_neg (by decide +kernel)]; exact ⟨rfl, rfl⟩))
    (fun os started H enc _ F => lifted os started H enc F)
theorem proved : Rows.ValueReadUptoSaid := over
#print axioms proved
end Go.Proofs.Ytkhgcikaojhknaa.valueRead
