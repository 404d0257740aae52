import Derived.Test.YtomjghlaoncpbaaShapL
set_option linter.unusedSimpArgs false
set_option linter.unusedVariables false
namespace Go.Proofs.Ytomjghlaoncpbaa
open Go.Proofs.YtomjghlaoncpbaaV
set_option maxHeartbeats 400000
set_option maxRecDepth 100000
def firstP (p : Prgm) : Nat → Typ → Val × Bool
  | 0 => firstS p 0 (fun _ => (zVal, false))
  | n + 1 => firstS p ((n + 1 : Nat) : Int) (firstP p n)
def firstR (p : Prgm) : Nat → Scp → Typ → Val × Bool
  | 0 => fun s t => firstRS p 0 (fun _ _ => (zVal, false)) (meantF s t)
  | n + 1 => fun s t => firstRS p ((n + 1 : Nat) : Int) (firstR p n) (meantF s t)
theorem q_first (p : Prgm) (hp : o56 p.2.2.2.1) : ∀ (n : Nat) (t : Typ), n ≤ 1000 → OkTyp t → Quiet Try.prog 110 [.agg (cPrg p), .agg (cTyp t), .int .i64 n] (firstV (firstP p n t))
  | 0, t, hn, ht => q_firstS p 0 _ t hp ht (by decide) (by decide) (fun h => absurd h (by decide))
  | n + 1, t, hn, ht => q_firstS p ((n + 1 : Nat) : Int) (firstP p n) t hp ht (by omega) (by omega) fun _ a ha => by
      rw [show (((n + 1 : Nat) : Int) - 1) = ((n : Nat) : Int) by omega]
      exact q_first p hp n a (by omega) ha
theorem a_firstOf (p : Prgm) (hp : o56 p.2.2.2.1) : ∀ (n : Nat) (s : Scp) (t : Typ) (x : V) (G : Heap), n ≤ 1000 → OkScp s → OkTyp t → ScpAt G s x →
    ACall Try.prog 111 [.agg (cPrg p), .agg (cTyp t), x, .int .i64 n] (fun r G' => r = firstV (firstR p n s t) ∧ G' = G) G
  | 0, s, t, x, G, hn, hs, ht, hx => a_firstS p hp 0 (by decide) (by decide) (fun _ _ => (zVal, false)) (fun h => absurd h (by decide)) s t x G hs ht hx
  | n + 1, s, t, x, G, hn, hs, ht, hx => a_firstS p hp ((n + 1 : Nat) : Int) (by omega) (by omega) (firstR p n) (fun _ s a x G hs ha hx => by
      rw [show (((n + 1 : Nat) : Int) - 1) = ((n : Nat) : Int) by omega]
      exact a_firstOf p hp n s a x G (by omega) hs ha hx) s t x G hs ht hx
/-! ### both say the same -/
/-- A type, nothing put in. -/
def nrm (t : Typ) : Typ := fillF ([], true) [] t
theorem nrm_eq (t : Typ) : nrm t = .mk t.kind t.name (t.args.map nrm) t.args.isEmpty := fillF_out fun i _ h _ => by simp at h
theorem nrm_fill (nm : Nms) (as_ : List Typ) : ∀ (n : Nat) (t : Typ), t.sz ≤ n → nrm (fillF nm as_ t) = fillF nm (as_.map nrm) t := by
  intro n
  induction n with
  | zero => intro t h; have := t.sz_eq; omega
  | succ n ih =>
  intro t hn
  by_cases h : ∃ i, t.kind = 5 ∧ nm.1.findIdx? (fun x => decide (t.name = x)) = some i ∧ i < as_.length
  · obtain ⟨i, h1, h2, h3⟩ := h
    rw [fillF_in h1 h2 h3, fillF_in h1 h2 (by rw [List.length_map]; exact h3), List.getElem_map]
  · rw [fillF_out fun i h1 h2 h3 => h ⟨i, h1, h2, h3⟩, fillF_out fun i h1 h2 h3 => h ⟨i, h1, h2, by rwa [List.length_map] at h3⟩, nrm_eq]
    show Typ.mk t.kind t.name ((t.args.map (fillF nm as_)).map nrm) (t.args.map (fillF nm as_)).isEmpty = _
    rw [List.map_map, List.isEmpty_map]
    have : t.args.map (nrm ∘ fillF nm as_) = t.args.map (fillF nm (as_.map nrm)) :=
      List.map_congr_left fun a ha => ih a (by have := Typ.sz_args ha; omega)
    rw [this]
/-- A type within a scope, all put in. -/
def resF : Scp → Typ → Typ
  | [], t => nrm t
  | (nm, ts) :: s, t => fillF nm (ts.1.map (resF s)) t
theorem resF_out {s : Scp} {t : Typ} (h : ¬ t.kind = 5) : resF s t = .mk t.kind t.name (t.args.map (resF s)) t.args.isEmpty := by
  cases s with
  | nil => exact nrm_eq t
  | cons f s => obtain ⟨nm, ts⟩ := f; exact fillF_out fun i h1 _ _ => h h1
theorem res_meant : ∀ (s : Scp) (t : Typ), (¬ (meantF s t).1.kind = 5 ∧ resF s t = resF (meantF s t).2 (meantF s t).1) ∨ ((meantF s t).1 = zTyp ∧ (resF s t).kind = 5)
  | [], t => by
    by_cases h : t.kind = 5
    · refine .inr ⟨by rw [meantF, if_pos h], ?_⟩
      show (nrm t).kind = 5
      rw [nrm_eq]; exact h
    · rw [meantF_no h]; exact .inl ⟨h, rfl⟩
  | (nm, ts) :: s, t => by
    by_cases h : t.kind = 5
    · cases hn : nm.1.findIdx? (fun x => decide (t.name = x)) with
      | none =>
        refine .inr ⟨by rw [meantF_none h (s := (nm, ts) :: s) hn], ?_⟩
        show (fillF nm _ t).kind = 5
        rw [fillF_out fun i _ h2 _ => by rw [hn] at h2; cases h2]; exact h
      | some i =>
        by_cases hi : i < ts.1.length
        · obtain ⟨e, _⟩ := meantF_in (s := (nm, ts) :: s) h hn hi
          have e2 : resF ((nm, ts) :: s) t = resF s ts.1[i] := by
            show fillF nm _ t = _
            rw [fillF_in h hn (by rw [List.length_map]; exact hi), List.getElem_map]
          rw [e, e2]
          exact res_meant s ts.1[i]
        · refine .inr ⟨by rw [meantF_out h (s := (nm, ts) :: s) hn hi], ?_⟩
          show (fillF nm _ t).kind = 5
          rw [fillF_out fun j _ h2 h3 => by rw [hn] at h2; cases h2; rw [List.length_map] at h3; exact hi h3]; exact h
    · rw [meantF_no h]; exact .inl ⟨h, rfl⟩
theorem allF_map (F : Typ → Val × Bool) (g : Typ → Typ) (ts : List Typ) : allF F (ts.map g) = allF (fun a => F (g a)) ts := by
  unfold allF
  rw [List.all_map, List.map_map]; rfl
theorem allF_congr {F F' : Typ → Val × Bool} {ts : List Typ} (h : ∀ a ∈ ts, F a = F' a) : allF F ts = allF F' ts := by
  unfold allF
  have h1 : ts.all (fun a => (F a).2) = ts.all (fun a => (F' a).2) := by
    rw [Bool.eq_iff_iff, List.all_eq_true, List.all_eq_true]
    exact ⟨fun q a ha => by rw [← h a ha]; exact q a ha, fun q a ha => by rw [h a ha]; exact q a ha⟩
  have h2 : ts.map (fun a => (F a).1) = ts.map (fun a => (F' a).1) := List.map_congr_left fun a ha => by rw [h a ha]
  rw [h1, h2]
theorem firstS_same (p : Prgm) (d : Int) (hd : 0 ≤ d) (F : Typ → Val × Bool) (F' : Scp → Typ → Val × Bool) (hF : 1 ≤ d → ∀ t s t', nrm t = resF s t' → F t = F' s t') (t : Typ) (s : Scp) (t' : Typ) (h : nrm t = resF s t') :
    firstS p d F t = firstRS p d F' (meantF s t') := by
  have hk : (nrm t).kind = t.kind := by rw [nrm_eq]; rfl
  rcases res_meant s t' with ⟨h1, h2⟩ | ⟨h1, h2⟩
  · generalize meantF s t' = m at h1 h2
    obtain ⟨t2, s2⟩ := m
    simp only at h1 h2
    rw [h2, nrm_eq, resF_out h1] at h
    simp only [Typ.mk.injEq] at h
    obtain ⟨ek, en, ea, _⟩ := h
    have hlen : t.args.length = t2.args.length := by have := congrArg List.length ea; simpa using this
    unfold firstS firstRS
    simp only
    rw [ek]
    split
    · rfl
    split
    · rename_i k9
      match hta : t.args, ht2 : t2.args with
      | [], [] => rfl
      | [], _ :: _ => rw [hta, ht2] at hlen; simp at hlen
      | [a], [] => rw [hta, ht2] at hlen; simp at hlen
      | [a], [b] =>
        rw [hta, ht2] at ea
        simp only
        by_cases hd0 : d = 0
        · rw [if_pos hd0, if_pos (by omega)]
        · rw [if_neg hd0, if_neg (by omega), hF (by omega) a s2 b (by simpa using ea)]
      | [a], _ :: _ :: _ => rw [hta, ht2] at hlen; simp at hlen
      | _ :: _ :: _, [] => rfl
      | _ :: _ :: _, [b] => rw [hta, ht2] at hlen; simp at hlen
      | _ :: _ :: _, _ :: _ :: _ => rfl
    split
    · rw [en]
      cases hdf : dataF p t2.name with
      | none => rfl
      | some dd =>
        simp only [Option.getD_some]
        have hmk : ∀ name, makesF p t name = match dd.2.2.1.find? (fun m => decide (m.1 = name)) with
            | none => none
            | some m => if dd.2.1.1.length = t.args.length ∧ m.2.1.length ≤ 6 then some (m.2.1.map (fillF dd.2.1 t.args)) else none := by
          intro name; unfold makesF; rw [en, hdf]; rfl
        by_cases hc : d < 1 ∨ dd.2.1.1.length ≠ t2.args.length
        · rw [if_pos hc]
          have hno : ∀ name, gsF p (d - 1) F t name = none := by
            intro name
            rcases hc with hc | hc
            · exact gsF_neg p F t name (by omega)
            · unfold gsF
              rw [hmk]
              split
              · rfl
              · rename_i hq
                split at hq
                · cases hq
                · rw [if_neg (by rw [hlen]; exact fun q => hc q.1)] at hq; cases hq
          rw [List.find?_eq_none.2 (fun m _ => by rw [hno]; simp)]
        · rw [if_neg hc]
          have hc' : 1 ≤ d ∧ dd.2.1.1.length = t2.args.length := by omega
          have hsame : ∀ name, gsF p (d - 1) F t name = gsR (F' ((dd.2.1, (t2.args, t2.nl)) :: s2)) dd name := by
            intro name
            unfold gsF gsR
            rw [hmk]
            cases dd.2.2.1.find? (fun m => decide (m.1 = name)) with
            | none => rfl
            | some m =>
              simp only
              by_cases h6 : m.2.1.length ≤ 6
              · rw [if_pos ⟨by rw [hlen]; exact hc'.2, h6⟩, if_pos h6]
                simp only
                rw [if_neg (by omega), allF_map]
                refine allF_congr fun a ha => hF hc'.1 _ _ _ ?_
                rw [nrm_fill _ _ _ a (Nat.le_refl _), ea]; rfl
              · rw [if_neg (fun q => h6 q.2), if_neg h6]
          simp only [hsame]
          rfl
    · rfl
  · rw [h] at hk
    rw [h2] at hk
    unfold firstS firstRS
    rw [h1, ← hk]
    rfl
theorem first_same (p : Prgm) : ∀ (n : Nat) (t : Typ) (s : Scp) (t' : Typ), nrm t = resF s t' → firstP p n t = firstR p n s t'
  | 0, t, s, t', h => firstS_same p 0 (by decide) (fun _ => (zVal, false)) (fun _ _ => (zVal, false)) (fun q => absurd q (by decide)) t s t' h
  | n + 1, t, s, t', h => firstS_same p ((n + 1 : Nat) : Int) (by omega) _ _ (fun _ => first_same p n) t s t' h
/-! ### the least deep one -/
def leastF (f : Nat → Val × Bool) : Val × Int := match (List.range 4).find? (fun n => (f n).2) with
  | some n => ((f n).1, 0)
  | none => (zVal, 4)
theorem leastF_at {f : Nat → Val × Bool} {n : Nat} (hn : n < 4) (h : (f n).2 = true) (hb : ∀ k, k < n → (f k).2 = false) : leastF f = ((f n).1, 0) := by
  have : (List.range 4).find? (fun n => (f n).2) = some n := by
    refine List.find?_eq_some_iff_getElem.2 ⟨h, n, by simpa using hn, by simp, fun k hk => ?_⟩
    rw [List.getElem_range, hb k hk]; rfl
  unfold leastF; rw [this]
theorem leastF_no {f : Nat → Val × Bool} (hb : ∀ k, k < 4 → (f k).2 = false) : leastF f = (zVal, 4) := by
  have : (List.range 4).find? (fun n => (f n).2) = none := List.find?_eq_none.2 fun k hk => by
    rw [hb k (by simpa using hk)]; simp
  unfold leastF; rw [this]
theorem snoc_lt {f : Nat → Val × Bool} {n : Nat} (he : ∀ k, k < n → (f k).2 = false) (h : (f n).2 = false) : ∀ k, k < n + 1 → (f k).2 = false := fun k hk => by
  by_cases e : k = n
  · subst e; exact h
  · exact he k (by omega)
def leastV (x : Val × Int) : V := .tup [.agg (cV x.1), .int .i64 x.2]
theorem zV_le4 : Vle (oneOf [V.agg [.int .i64 0, .int .i64 0, .str [], .sl [] true .full], .int .i64 4]) (leastV (zVal, 4)) :=
  Vle.tupL (.cons (Vle.aggL (.cons (Vle.refl _) (.cons (Vle.refl _) (.cons (Vle.refl _) (.cons Vle.untag .nil))))) (.cons (Vle.refl _) .nil))
theorem q_First (p : Prgm) (hp : o56 p.2.2.2.1) (t : Typ) (ht : OkTyp t) : Quiet Try.prog 51 [.agg (cPrg p), .agg (cTyp t)] (leastV (leastF fun n => firstP p n t)) := by
  refine Quiet.weak fun G => ?_
  refine acall_body (rs := [.cell 4 67, .tmp 5]) Try.func51 rfl rfl Try.ntmps51 (by kernel_rfl) (Nat.le_of_ble_eq_true rfl) ?_
  refine aw_sr rfl ?_  -- r0
  simp only [go_sem, reduceIte, Nat.reduceEqDiff, Nat.reduceAdd, Nat.reduceMul, Nat.reduceSub, Nat.reduceLeDiff, Nat.reduceLT, reduceCtorEq]
  intro b2 hb2 b3 hb3 b4 hb4
  have hG4 := (fresh_cons (fresh_cons hb4).2).2
  refine aw_box3 hb2 hb3 hb4 fun B hsB h2 h3 h4 _ _ _ _ _ _ => ?_
  refine aw_seq fun K1 hK1 => ?_
  refine aw_sr rfl ?_  -- r1
  simp only [go_sem, reduceIte, Nat.reduceEqDiff, Nat.reduceAdd, Nat.reduceMul, Nat.reduceSub, Nat.reduceLeDiff, Nat.reduceLT, reduceCtorEq]
  refine aw_block ?_
  refine aw_lph (S := {n : Nat // n ≤ 4 ∧ ∀ k, k < n → (firstP p k t).2 = false}) (fun n => [(9, .int .i64 n.1), (2, .ptr b2 0), (3, .ptr b3 0), (4, .ptr b4 0)]) (fun _ => B) (fun n => 4 - n.1) ⟨0, by decide, fun k h => absurd h (by omega)⟩ ?_ (fun _ _ h => h) ?_
  · simp only [go_sem, reduceIte, Nat.reduceEqDiff, Nat.reduceAdd, Nat.reduceMul, Nat.reduceSub, Nat.reduceLeDiff, Nat.reduceLT, reduceCtorEq, Int.natCast_zero]
  intro ⟨n, hn, he⟩
  simp only
  refine aw_sr rfl ?_  -- r2
  simp only [go_sem, reduceIte, Nat.reduceEqDiff, Nat.reduceAdd, Nat.reduceMul, Nat.reduceSub, Nat.reduceLeDiff, Nat.reduceLT, reduceCtorEq]
  refine aw_seq fun K2 hK2 => ?_
  refine aw_if rfl (fun h => ?_) (fun h => ?_)
  · have hlt : n < 4 := by simp at h; omega
    refine aw_skip (hK2 _ _ ?_)
    refine aw_seq fun K3 hK3 => ?_
    refine aw_block ?_
    refine aw_sr rfl ?_  -- r3
    simp only [go_sem, reduceIte, Nat.reduceEqDiff, Nat.reduceAdd, Nat.reduceMul, Nat.reduceSub, Nat.reduceLeDiff, Nat.reduceLT, reduceCtorEq]
    refine aw_sr rfl ?_  -- r4
    simp only [go_sem, reduceIte, Nat.reduceEqDiff, Nat.reduceAdd, Nat.reduceMul, Nat.reduceSub, Nat.reduceLeDiff, Nat.reduceLT, reduceCtorEq, h2, h3, e62, cTyp]
    refine goA_q (q_first p hp n t (by omega) ht) ?_
    simp only [go_sem, reduceIte, Nat.reduceEqDiff, Nat.reduceAdd, Nat.reduceMul, Nat.reduceSub, Nat.reduceLeDiff, Nat.reduceLT, reduceCtorEq, firstV, cV]
    intro b7 hb7
    refine aw_box1 hb7 fun C hs h7 => ?_
    have h4' := hs _ _ h4
    refine aw_sr rfl ?_  -- r5
    simp only [go_sem, reduceIte, Nat.reduceEqDiff, Nat.reduceAdd, Nat.reduceMul, Nat.reduceSub, Nat.reduceLeDiff, Nat.reduceLT, reduceCtorEq]
    refine aw_if rfl (fun h => ?_) (fun h => ?_)
    · refine aw_sr rfl ?_  -- r6
      simp only [go_sem, reduceIte, Nat.reduceEqDiff, Nat.reduceAdd, Nat.reduceMul, Nat.reduceSub, Nat.reduceLeDiff, Nat.reduceLT, reduceCtorEq, h4', h7]
      refine aw_ret ⟨trivial, [.agg (cV (firstP p n t).1), .int .i64 0], ?_, ?_, sub_hset_fresh hG4 (sub_trans hsB hs)⟩
      · simp only [go_sem, reduceIte, Nat.reduceEqDiff, Nat.reduceAdd, Nat.reduceMul, Nat.reduceSub, Nat.reduceLeDiff, Nat.reduceLT, reduceCtorEq, resL, resOf, hget_hset_self h4']
      rw [leastF_at hlt h he]
      exact Vle.refl _
    refine aw_skip (hK3 _ _ ?_)
    refine aw_rg rfl ?_  -- r7
    simp only [go_sem, reduceIte, Nat.reduceEqDiff, Nat.reduceAdd, Nat.reduceMul, Nat.reduceSub, Nat.reduceLeDiff, Nat.reduceLT, reduceCtorEq, show IntKind.i64.wrap ((n : Int) + 1) = ((n + 1 : Nat) : Int) by rw [wrap64 (by omega) (by omega)]; omega]
    refine ⟨⟨n + 1, by omega, snoc_lt (f := fun k => firstP p k t) he h⟩, by show 4 - (n + 1) < 4 - n; omega, ?_, hs⟩
    simp only [go_sem, reduceIte, Nat.reduceEqDiff, Nat.reduceAdd, Nat.reduceMul, Nat.reduceSub, Nat.reduceLeDiff, Nat.reduceLT, reduceCtorEq]
  have h4n : n = 4 := by simp at h; omega
  subst h4n
  refine aw_exit ?_
  refine hK1 _ _ ?_
  refine aw_sr rfl ?_  -- r8
  simp only [go_sem, reduceIte, Nat.reduceEqDiff, Nat.reduceAdd, Nat.reduceMul, Nat.reduceSub, Nat.reduceLeDiff, Nat.reduceLT, reduceCtorEq, h4]
  refine aw_ret ⟨trivial, [.agg [.int .i64 0, .int .i64 0, .str [], .sl [] true .full], .int .i64 4], ?_, ?_, sub_hset_fresh hG4 hsB⟩
  · simp only [go_sem, reduceIte, Nat.reduceEqDiff, Nat.reduceAdd, Nat.reduceMul, Nat.reduceSub, Nat.reduceLeDiff, Nat.reduceLT, reduceCtorEq, resL, resOf, hget_hset_self h4]
  rw [leastF_no he]
  exact zV_le4
theorem q_ShapeFirst (p : Prgm) (hp : o56 p.2.2.2.1) (t : Typ) (ht : OkTyp t) : Quiet Try.prog 52 [.agg (cPrg p), .agg (cTyp t)] (leastV (leastF fun n => firstR p n [] t)) := by
  refine Quiet.weak fun G => ?_
  refine acall_body (rs := [.cell 4 67, .tmp 5]) Try.func52 rfl rfl Try.ntmps52 (by kernel_rfl) (Nat.le_of_ble_eq_true rfl) ?_
  refine aw_sr rfl ?_  -- r0
  simp only [go_sem, reduceIte, Nat.reduceEqDiff, Nat.reduceAdd, Nat.reduceMul, Nat.reduceSub, Nat.reduceLeDiff, Nat.reduceLT, reduceCtorEq]
  intro b2 hb2 b3 hb3 b4 hb4
  have hG4 := (fresh_cons (fresh_cons hb4).2).2
  refine aw_box3 hb2 hb3 hb4 fun B hsB h2 h3 h4 _ _ _ _ _ _ => ?_
  refine aw_seq fun K1 hK1 => ?_
  refine aw_sr rfl ?_  -- r1
  simp only [go_sem, reduceIte, Nat.reduceEqDiff, Nat.reduceAdd, Nat.reduceMul, Nat.reduceSub, Nat.reduceLeDiff, Nat.reduceLT, reduceCtorEq]
  refine aw_block ?_
  refine aw_lph (S := {n : Nat // n ≤ 4 ∧ ∀ k, k < n → (firstR p k [] t).2 = false}) (fun n => [(6, .int .i64 n.1), (2, .ptr b2 0), (3, .ptr b3 0), (4, .ptr b4 0)]) (fun _ => B) (fun n => 4 - n.1) ⟨0, by decide, fun k h => absurd h (by omega)⟩ ?_ (fun _ _ h => h) ?_
  · simp only [go_sem, reduceIte, Nat.reduceEqDiff, Nat.reduceAdd, Nat.reduceMul, Nat.reduceSub, Nat.reduceLeDiff, Nat.reduceLT, reduceCtorEq, Int.natCast_zero]
  intro ⟨n, hn, he⟩
  simp only
  refine aw_seq fun K2 hK2 => ?_
  refine aw_sr rfl ?_  -- r2
  simp only [go_sem, reduceIte, Nat.reduceEqDiff, Nat.reduceAdd, Nat.reduceMul, Nat.reduceSub, Nat.reduceLeDiff, Nat.reduceLT, reduceCtorEq]
  refine aw_if rfl (fun h => ?_) (fun h => ?_)
  · have hlt : n < 4 := by simp at h; omega
    refine aw_skip (hK2 _ _ ?_)
    refine aw_seq fun K3 hK3 => ?_
    refine aw_block ?_
    refine aw_sr rfl ?_  -- r4
    simp only [go_sem, reduceIte, Nat.reduceEqDiff, Nat.reduceAdd, Nat.reduceMul, Nat.reduceSub, Nat.reduceLeDiff, Nat.reduceLT, reduceCtorEq, h2, h3, e62, cTyp]
    refine goA_by (a_firstOf p hp n [] t .nilp B (by omega) (fun _ h => by cases h) ht rfl) fun r G2 hr => ?_
    obtain ⟨rfl, rfl⟩ := hr
    simp only [go_sem, reduceIte, Nat.reduceEqDiff, Nat.reduceAdd, Nat.reduceMul, Nat.reduceSub, Nat.reduceLeDiff, Nat.reduceLT, reduceCtorEq, firstV, cV]
    intro b7 hb7
    refine aw_box1 hb7 fun C hs h7 => ?_
    have h4' := hs _ _ h4
    refine aw_sr rfl ?_  -- r5
    simp only [go_sem, reduceIte, Nat.reduceEqDiff, Nat.reduceAdd, Nat.reduceMul, Nat.reduceSub, Nat.reduceLeDiff, Nat.reduceLT, reduceCtorEq]
    refine aw_if rfl (fun h => ?_) (fun h => ?_)
    · refine aw_sr rfl ?_  -- r6
      simp only [go_sem, reduceIte, Nat.reduceEqDiff, Nat.reduceAdd, Nat.reduceMul, Nat.reduceSub, Nat.reduceLeDiff, Nat.reduceLT, reduceCtorEq, h4', h7]
      refine aw_ret ⟨trivial, [.agg (cV (firstR p n [] t).1), .int .i64 0], ?_, ?_, sub_hset_fresh hG4 (sub_trans hsB hs)⟩
      · simp only [go_sem, reduceIte, Nat.reduceEqDiff, Nat.reduceAdd, Nat.reduceMul, Nat.reduceSub, Nat.reduceLeDiff, Nat.reduceLT, reduceCtorEq, resL, resOf, hget_hset_self h4']
      rw [leastF_at hlt h he]
      exact Vle.refl _
    refine aw_skip (hK3 _ _ ?_)
    refine aw_rg rfl ?_  -- r3
    simp only [go_sem, reduceIte, Nat.reduceEqDiff, Nat.reduceAdd, Nat.reduceMul, Nat.reduceSub, Nat.reduceLeDiff, Nat.reduceLT, reduceCtorEq, show IntKind.i64.wrap ((n : Int) + 1) = ((n + 1 : Nat) : Int) by rw [wrap64 (by omega) (by omega)]; omega]
    refine ⟨⟨n + 1, by omega, snoc_lt (f := fun k => firstR p k [] t) he h⟩, by show 4 - (n + 1) < 4 - n; omega, ?_, hs⟩
    simp only [go_sem, reduceIte, Nat.reduceEqDiff, Nat.reduceAdd, Nat.reduceMul, Nat.reduceSub, Nat.reduceLeDiff, Nat.reduceLT, reduceCtorEq]
  have h4n : n = 4 := by simp at h; omega
  subst h4n
  refine aw_exit ?_
  refine hK1 _ _ ?_
  refine aw_sr rfl ?_  -- r7
  simp only [go_sem, reduceIte, Nat.reduceEqDiff, Nat.reduceAdd, Nat.reduceMul, Nat.reduceSub, Nat.reduceLeDiff, Nat.reduceLT, reduceCtorEq, h4]
  refine aw_ret ⟨trivial, [.agg [.int .i64 0, .int .i64 0, .str [], .sl [] true .full], .int .i64 4], ?_, ?_, sub_hset_fresh hG4 hsB⟩
  · simp only [go_sem, reduceIte, Nat.reduceEqDiff, Nat.reduceAdd, Nat.reduceMul, Nat.reduceSub, Nat.reduceLeDiff, Nat.reduceLT, reduceCtorEq, resL, resOf, hget_hset_self h4]
  rw [leastF_no he]
  exact zV_le4
end Go.Proofs.Ytomjghlaoncpbaa
