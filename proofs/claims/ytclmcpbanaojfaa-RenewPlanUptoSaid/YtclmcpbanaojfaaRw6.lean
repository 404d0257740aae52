/- Part 6 of a proof laid in parts; each part's own comment says what it proves and under which conditions. -/
import Derived.Test.YtclmcpbanaojfaaRw5
import Derived.Test.YtclmcpbanaojfaaRw3
import Derived.Test.YtclmcpbanaojfaaRw4
import Derived.Test.YtclmcpbanaojfaaRows
import Derived.WalkKit
import Derived.ProofKit
import Derived.OpenShut
import Derived.JoinedCond
set_option linter.unusedSimpArgs false
set_option linter.unusedVariables false
namespace Go.Proofs.Ytclmcpbanaojfaa
open Go.Proofs.YtclmcpbanaojfaaV
set_option maxHeartbeats 400000
set_option maxRecDepth 100000
def firstP (p : Prgm) : Nat → Typ → Val × Bool
  | 0 => firstS p 0 (fun _ => (zVal, false))
  | n + 1 => firstS p ((n + 1 : Nat) : Int) (firstP p n)
def firstR (p : Prgm) : Nat → Scp → Typ → Val × Bool
  | 0 => fun s t => firstRS p 0 (fun _ _ => (zVal, false)) (meantF s t)
  | n + 1 => fun s t => firstRS p ((n + 1 : Nat) : Int) (firstR p n) (meantF s t)
theorem q_first (p : Prgm) (hp : o23 p.2.2.2.1) : ∀ (n : Nat) (t : Typ), n ≤ 1000 → OkTyp t → Quiet Try.prog 275 [.agg (cPrg p), .agg (cTyp t), .int .i64 n] (firstV (firstP p n t))
  | 0, t, hn, ht => q_firstS p 0 _ t hp ht (by decide) (by decide) (fun h => absurd h (by decide))
  | n + 1, t, hn, ht => q_firstS p ((n + 1 : Nat) : Int) (firstP p n) t hp ht (by omega) (by omega) fun _ a ha => by
      rw [show (((n + 1 : Nat) : Int) - 1) = ((n : Nat) : Int) by omega]
      exact q_first p hp n a (by omega) ha
theorem a_firstOf (p : Prgm) (hp : o23 p.2.2.2.1) : ∀ (n : Nat) (s : Scp) (t : Typ) (x : V) (G : Heap), n ≤ 1000 → OkScp s → OkTyp t → ScpAt G s x →
    ACall Try.prog 212 [.agg (cPrg p), .agg (cTyp t), x, .int .i64 n] (fun r G' => r = firstV (firstR p n s t) ∧ G' = G) G
  | 0, s, t, x, G, hn, hs, ht, hx => a_firstS p hp 0 (by decide) (by decide) (fun _ _ => (zVal, false)) (fun h => absurd h (by decide)) s t x G hs ht hx
  | n + 1, s, t, x, G, hn, hs, ht, hx => a_firstS p hp ((n + 1 : Nat) : Int) (by omega) (by omega) (firstR p n) (fun _ s a x G hs ha hx => by
      rw [show (((n + 1 : Nat) : Int) - 1) = ((n : Nat) : Int) by omega]
      exact a_firstOf p hp n s a x G (by omega) hs ha hx) s t x G hs ht hx
/-! ### both say the same -/
/-- A type, nothing put in. -/
def nrm (t : Typ) : Typ := fillF ([], true) [] t
theorem nrm_eq (t : Typ) : nrm t = .mk t.kind t.name (t.args.map nrm) t.args.isEmpty := fillF_out fun i _ h _ => by simp at h
theorem nrm_fill (nm : Nms) (as_ : List Typ) : ∀ (n : Nat) (t : Typ), t.sz ≤ n → nrm (fillF nm as_ t) = fillF nm (as_.map nrm) t := by
  intro n
  induction n with
  | zero => intro t h; have := t.sz_eq; omega
  | succ n ih =>
  intro t hn
  by_cases h : ∃ i, t.kind = 5 ∧ nm.1.findIdx? (fun x => decide (t.name = x)) = some i ∧ i < as_.length
  · obtain ⟨i, h1, h2, h3⟩ := h
    rw [fillF_in h1 h2 h3, fillF_in h1 h2 (by rw [List.length_map]; exact h3), List.getElem_map]
  · rw [fillF_out fun i h1 h2 h3 => h ⟨i, h1, h2, h3⟩, fillF_out fun i h1 h2 h3 => h ⟨i, h1, h2, by rwa [List.length_map] at h3⟩, nrm_eq]
    show Typ.mk t.kind t.name ((t.args.map (fillF nm as_)).map nrm) (t.args.map (fillF nm as_)).isEmpty = _
    rw [List.map_map, List.isEmpty_map]
    have : t.args.map (nrm ∘ fillF nm as_) = t.args.map (fillF nm (as_.map nrm)) :=
      List.map_congr_left fun a ha => ih a (by have := Typ.sz_args ha; omega)
    rw [this]
/-- A type within a scope, all put in. -/
def resF : Scp → Typ → Typ
  | [], t => nrm t
  | (nm, ts) :: s, t => fillF nm (ts.1.map (resF s)) t
theorem resF_out {s : Scp} {t : Typ} (h : ¬ t.kind = 5) : resF s t = .mk t.kind t.name (t.args.map (resF s)) t.args.isEmpty := by
  cases s with
  | nil => exact nrm_eq t
  | cons f s => obtain ⟨nm, ts⟩ := f; exact fillF_out fun i h1 _ _ => h h1
theorem res_meant : ∀ (s : Scp) (t : Typ), (¬ (meantF s t).1.kind = 5 ∧ resF s t = resF (meantF s t).2 (meantF s t).1) ∨ ((meantF s t).1 = zTyp ∧ (resF s t).kind = 5)
  | [], t => by
    by_cases h : t.kind = 5
    · refine .inr ⟨by rw [meantF, if_pos h], ?_⟩
      show (nrm t).kind = 5
      rw [nrm_eq]; exact h
    · rw [meantF_no h]; exact .inl ⟨h, rfl⟩
  | (nm, ts) :: s, t => by
    by_cases h : t.kind = 5
    · cases hn : nm.1.findIdx? (fun x => decide (t.name = x)) with
      | none =>
        refine .inr ⟨by rw [meantF_none h (s := (nm, ts) :: s) hn], ?_⟩
        show (fillF nm _ t).kind = 5
        rw [fillF_out fun i _ h2 _ => by rw [hn] at h2; cases h2]; exact h
      | some i =>
        by_cases hi : i < ts.1.length
        · obtain ⟨e, _⟩ := meantF_in (s := (nm, ts) :: s) h hn hi
          have e2 : resF ((nm, ts) :: s) t = resF s ts.1[i] := by
            show fillF nm _ t = _
            rw [fillF_in h hn (by rw [List.length_map]; exact hi), List.getElem_map]
          rw [e, e2]
          exact res_meant s ts.1[i]
        · refine .inr ⟨by rw [meantF_out h (s := (nm, ts) :: s) hn hi], ?_⟩
          show (fillF nm _ t).kind = 5
          rw [fillF_out fun j _ h2 h3 => by rw [hn] at h2; cases h2; rw [List.length_map] at h3; exact hi h3]; exact h
    · rw [meantF_no h]; exact .inl ⟨h, rfl⟩
theorem allF_map (F : Typ → Val × Bool) (g : Typ → Typ) (ts : List Typ) : allF F (ts.map g) = allF (fun a => F (g a)) ts := by
  unfold allF
  rw [List.all_map, List.map_map]; rfl
theorem allF_congr {F F' : Typ → Val × Bool} {ts : List Typ} (h : ∀ a ∈ ts, F a = F' a) : allF F ts = allF F' ts := by
  unfold allF
  have h1 : ts.all (fun a => (F a).2) = ts.all (fun a => (F' a).2) := by
    rw [Bool.eq_iff_iff, List.all_eq_true, List.all_eq_true]
    exact ⟨fun q a ha => by rw [← h a ha]; exact q a ha, fun q a ha => by rw [h a ha]; exact q a ha⟩
  have h2 : ts.map (fun a => (F a).1) = ts.map (fun a => (F' a).1) := List.map_congr_left fun a ha => by rw [h a ha]
  rw [h1, h2]
theorem firstS_same (p : Prgm) (d : Int) (hd : 0 ≤ d) (F : Typ → Val × Bool) (F' : Scp → Typ → Val × Bool) (hF : 1 ≤ d → ∀ t s t', nrm t = resF s t' → F t = F' s t') (t : Typ) (s : Scp) (t' : Typ) (h : nrm t = resF s t') :
    firstS p d F t = firstRS p d F' (meantF s t') := by
  have hk : (nrm t).kind = t.kind := by rw [nrm_eq]; rfl
  rcases res_meant s t' with ⟨h1, h2⟩ | ⟨h1, h2⟩
  · generalize meantF s t' = m at h1 h2
    obtain ⟨t2, s2⟩ := m
    simp only at h1 h2
    rw [h2, nrm_eq, resF_out h1] at h
    simp only [Typ.mk.injEq] at h
    obtain ⟨ek, en, ea, _⟩ := h
    have hlen : t.args.length = t2.args.length := by have := congrArg List.length ea; simpa using this
    unfold firstS firstRS
    simp only
    rw [ek]
    split
    · rfl
    split
    · rename_i k9
      match hta : t.args, ht2 : t2.args with
      | [], [] => rfl
      | [], _ :: _ => rw [hta, ht2] at hlen; simp at hlen
      | [a], [] => rw [hta, ht2] at hlen; simp at hlen
      | [a], [b] =>
        rw [hta, ht2] at ea
        simp only
        by_cases hd0 : d = 0
        · rw [if_pos hd0, if_pos (by omega)]
        · rw [if_neg hd0, if_neg (by omega), hF (by omega) a s2 b (by simpa using ea)]
      | [a], _ :: _ :: _ => rw [hta, ht2] at hlen; simp at hlen
      | _ :: _ :: _, [] => rfl
      | _ :: _ :: _, [b] => rw [hta, ht2] at hlen; simp at hlen
      | _ :: _ :: _, _ :: _ :: _ => rfl
    split
    · rw [en]
      cases hdf : dataF p t2.name with
      | none => rfl
      | some dd =>
        simp only [Option.getD_some]
        have hmk : ∀ name, makesF p t name = match dd.2.2.1.find? (fun m => decide (m.1 = name)) with
            | none => none
            | some m => if dd.2.1.1.length = t.args.length ∧ m.2.1.length ≤ 6 then some (m.2.1.map (fillF dd.2.1 t.args)) else none := by
          intro name; unfold makesF; rw [en, hdf]; rfl
        by_cases hc : d < 1 ∨ dd.2.1.1.length ≠ t2.args.length
        · rw [if_pos hc]
          have hno : ∀ name, gsF p (d - 1) F t name = none := by
            intro name
            rcases hc with hc | hc
            · exact gsF_neg p F t name (by omega)
            · unfold gsF
              rw [hmk]
              split
              · rfl
              · rename_i hq
                split at hq
                · cases hq
                · rw [if_neg (by rw [hlen]; exact fun q => hc q.1)] at hq; cases hq
          rw [List.find?_eq_none.2 (fun m _ => by rw [hno]; simp)]
        · rw [if_neg hc]
          have hc' : 1 ≤ d ∧ dd.2.1.1.length = t2.args.length := by omega
          have hsame : ∀ name, gsF p (d - 1) F t name = gsR (F' ((dd.2.1, (t2.args, t2.nl)) :: s2)) dd name := by
            intro name
            unfold gsF gsR
            rw [hmk]
            cases dd.2.2.1.find? (fun m => decide (m.1 = name)) with
            | none => rfl
            | some m =>
              simp only
              by_cases h6 : m.2.1.length ≤ 6
              · rw [if_pos ⟨by rw [hlen]; exact hc'.2, h6⟩, if_pos h6]
                simp only
                rw [if_neg (by omega), allF_map]
                refine allF_congr fun a ha => hF hc'.1 _ _ _ ?_
                rw [nrm_fill _ _ _ a (Nat.le_refl _), ea]; rfl
              · rw [if_neg (fun q => h6 q.2), if_neg h6]
          first | (simp only [hsame]; done) | (simp only [hsame]; rfl)
    · rfl
  · rw [h] at hk
    rw [h2] at hk
    unfold firstS firstRS
    rw [h1, ← hk]
    rfl
theorem first_same (p : Prgm) : ∀ (n : Nat) (t : Typ) (s : Scp) (t' : Typ), nrm t = resF s t' → firstP p n t = firstR p n s t'
  | 0, t, s, t', h => firstS_same p 0 (by decide) (fun _ => (zVal, false)) (fun _ _ => (zVal, false)) (fun q => absurd q (by decide)) t s t' h
  | n + 1, t, s, t', h => firstS_same p ((n + 1 : Nat) : Int) (by omega) _ _ (fun _ => first_same p n) t s t' h
/-! ### the least deep one -/
def leastF (f : Nat → Val × Bool) : Val × Int := match (List.range 4).find? (fun n => (f n).2) with
  | some n => ((f n).1, 0)
  | none => (zVal, 4)
theorem leastF_at {f : Nat → Val × Bool} {n : Nat} (hn : n < 4) (h : (f n).2 = true) (hb : ∀ k, k < n → (f k).2 = false) : leastF f = ((f n).1, 0) := by
  have : (List.range 4).find? (fun n => (f n).2) = some n := by
    refine List.find?_eq_some_iff_getElem.2 ⟨h, n, by simpa using hn, by simp, fun k hk => ?_⟩
    rw [List.getElem_range, hb k hk]; rfl
  unfold leastF; rw [this]
theorem leastF_no {f : Nat → Val × Bool} (hb : ∀ k, k < 4 → (f k).2 = false) : leastF f = (zVal, 4) := by
  have : (List.range 4).find? (fun n => (f n).2) = none := List.find?_eq_none.2 fun k hk => by
    rw [hb k (by simpa using hk)]; simp
  unfold leastF; rw [this]
theorem snoc_lt {f : Nat → Val × Bool} {n : Nat} (he : ∀ k, k < n → (f k).2 = false) (h : (f n).2 = false) : ∀ k, k < n + 1 → (f k).2 = false := fun k hk => by
  by_cases e : k = n
  · subst e; exact h
  · exact he k (by omega)
def leastV (x : Val × Int) : V := .tup [.agg (cV x.1), .int .i64 x.2]
theorem zV_le4 : Vle (oneOf [V.agg [.int .i64 0, .int .i64 0, .str [], .sl [] true .full], .int .i64 4]) (leastV (zVal, 4)) :=
  Vle.tupL (.cons (Vle.aggL (.cons (Vle.refl _) (.cons (Vle.refl _) (.cons (Vle.refl _) (.cons Vle.untag .nil))))) (.cons (Vle.refl _) .nil))
theorem q_First (p : Prgm) (hp : o23 p.2.2.2.1) (t : Typ) (ht : OkTyp t) : Quiet Try.prog 248 [.agg (cPrg p), .agg (cTyp t)] (leastV (leastF fun n => firstP p n t)) := by
  refine Quiet.weak fun G => ?_
  refine acall_body (rs := [.cell 4 110, .tmp 5]) Try.func248 rfl rfl Try.ntmps248 (by kernel_rfl) (Nat.le_of_ble_eq_true rfl) ?_
  refine aw_sr rfl ?_  -- r0
  simp only [go_sem, reduceIte, Nat.reduceEqDiff, Nat.reduceAdd, Nat.reduceMul, Nat.reduceSub, Nat.reduceLeDiff, Nat.reduceLT, reduceCtorEq]
  intro b2 hb2 b3 hb3 b4 hb4
  have hG4 := (fresh_cons (fresh_cons hb4).2).2
  refine aw_box3 hb2 hb3 hb4 fun B hsB h2 h3 h4 _ _ _ _ _ _ => ?_
  refine aw_seq fun K1 hK1 => ?_
  refine aw_sr rfl ?_  -- r1
  simp only [go_sem, reduceIte, Nat.reduceEqDiff, Nat.reduceAdd, Nat.reduceMul, Nat.reduceSub, Nat.reduceLeDiff, Nat.reduceLT, reduceCtorEq]
  refine aw_block ?_
  refine aw_lph (S := {n : Nat // n ≤ 4 ∧ ∀ k, k < n → (firstP p k t).2 = false}) (fun n => [(9, .int .i64 n.1), (2, .ptr b2 0), (3, .ptr b3 0), (4, .ptr b4 0)]) (fun _ => B) (fun n => 4 - n.1) ⟨0, by decide, fun k h => absurd h (by omega)⟩ ?_ (fun _ _ h => h) ?_
  · simp only [go_sem, reduceIte, Nat.reduceEqDiff, Nat.reduceAdd, Nat.reduceMul, Nat.reduceSub, Nat.reduceLeDiff, Nat.reduceLT, reduceCtorEq, Int.natCast_zero]
  intro ⟨n, hn, he⟩
  simp only
  refine aw_sr rfl ?_  -- r2
  simp only [go_sem, reduceIte, Nat.reduceEqDiff, Nat.reduceAdd, Nat.reduceMul, Nat.reduceSub, Nat.reduceLeDiff, Nat.reduceLT, reduceCtorEq]
  refine aw_seq fun K2 hK2 => ?_
  refine aw_if rfl (fun h => ?_) (fun h => ?_)
  · have hlt : n < 4 := by simp at h; omega
    refine aw_skip (hK2 _ _ ?_)
    refine aw_seq fun K3 hK3 => ?_
    refine aw_block ?_
    refine aw_sr rfl ?_  -- r3
    simp only [go_sem, reduceIte, Nat.reduceEqDiff, Nat.reduceAdd, Nat.reduceMul, Nat.reduceSub, Nat.reduceLeDiff, Nat.reduceLT, reduceCtorEq]
    refine aw_sr rfl ?_  -- r4
    simp only [go_sem, reduceIte, Nat.reduceEqDiff, Nat.reduceAdd, Nat.reduceMul, Nat.reduceSub, Nat.reduceLeDiff, Nat.reduceLT, reduceCtorEq, h2, h3, e29, cTyp]
    refine goA_q (q_first p hp n t (by omega) ht) ?_
    simp only [go_sem, reduceIte, Nat.reduceEqDiff, Nat.reduceAdd, Nat.reduceMul, Nat.reduceSub, Nat.reduceLeDiff, Nat.reduceLT, reduceCtorEq, firstV, cV]
    intro b7 hb7
    refine aw_box1 hb7 fun C hs h7 => ?_
    have h4' := hs _ _ h4
    refine aw_sr rfl ?_  -- r5
    simp only [go_sem, reduceIte, Nat.reduceEqDiff, Nat.reduceAdd, Nat.reduceMul, Nat.reduceSub, Nat.reduceLeDiff, Nat.reduceLT, reduceCtorEq]
    refine aw_if rfl (fun h => ?_) (fun h => ?_)
    · refine aw_sr rfl ?_  -- r6
      simp only [go_sem, reduceIte, Nat.reduceEqDiff, Nat.reduceAdd, Nat.reduceMul, Nat.reduceSub, Nat.reduceLeDiff, Nat.reduceLT, reduceCtorEq, h4', h7]
      refine aw_ret ⟨trivial, [.agg (cV (firstP p n t).1), .int .i64 0], ?_, ?_, sub_hset_fresh hG4 (sub_trans hsB hs)⟩
      · simp only [go_sem, reduceIte, Nat.reduceEqDiff, Nat.reduceAdd, Nat.reduceMul, Nat.reduceSub, Nat.reduceLeDiff, Nat.reduceLT, reduceCtorEq, resL, resOf, hget_hset_self h4']
      rw [leastF_at hlt h he]
      exact Vle.refl _
    refine aw_skip (hK3 _ _ ?_)
    refine aw_rg rfl ?_  -- r7
    simp only [go_sem, reduceIte, Nat.reduceEqDiff, Nat.reduceAdd, Nat.reduceMul, Nat.reduceSub, Nat.reduceLeDiff, Nat.reduceLT, reduceCtorEq, show IntKind.i64.wrap ((n : Int) + 1) = ((n + 1 : Nat) : Int) by rw [wrap64 (by omega) (by omega)]; omega]
    refine ⟨⟨n + 1, by omega, snoc_lt (f := fun k => firstP p k t) he h⟩, by show 4 - (n + 1) < 4 - n; omega, ?_, hs⟩
    simp only [go_sem, reduceIte, Nat.reduceEqDiff, Nat.reduceAdd, Nat.reduceMul, Nat.reduceSub, Nat.reduceLeDiff, Nat.reduceLT, reduceCtorEq]
  have h4n : n = 4 := by simp at h; omega
  subst h4n
  refine aw_exit ?_
  refine hK1 _ _ ?_
  refine aw_sr rfl ?_  -- r8
  simp only [go_sem, reduceIte, Nat.reduceEqDiff, Nat.reduceAdd, Nat.reduceMul, Nat.reduceSub, Nat.reduceLeDiff, Nat.reduceLT, reduceCtorEq, h4]
  refine aw_ret ⟨trivial, [.agg [.int .i64 0, .int .i64 0, .str [], .sl [] true .full], .int .i64 4], ?_, ?_, sub_hset_fresh hG4 hsB⟩
  · simp only [go_sem, reduceIte, Nat.reduceEqDiff, Nat.reduceAdd, Nat.reduceMul, Nat.reduceSub, Nat.reduceLeDiff, Nat.reduceLT, reduceCtorEq, resL, resOf, hget_hset_self h4]
  rw [leastF_no he]
  exact zV_le4
theorem q_ShapeFirst (p : Prgm) (hp : o23 p.2.2.2.1) (t : Typ) (ht : OkTyp t) : Quiet Try.prog 124 [.agg (cPrg p), .agg (cTyp t)] (leastV (leastF fun n => firstR p n [] t)) := by
  refine Quiet.weak fun G => ?_
  refine acall_body (rs := [.cell 4 110, .tmp 5]) Try.func124 rfl rfl Try.ntmps124 (by kernel_rfl) (Nat.le_of_ble_eq_true rfl) ?_
  refine aw_sr rfl ?_  -- r0
  simp only [go_sem, reduceIte, Nat.reduceEqDiff, Nat.reduceAdd, Nat.reduceMul, Nat.reduceSub, Nat.reduceLeDiff, Nat.reduceLT, reduceCtorEq]
  intro b2 hb2 b3 hb3 b4 hb4
  have hG4 := (fresh_cons (fresh_cons hb4).2).2
  refine aw_box3 hb2 hb3 hb4 fun B hsB h2 h3 h4 _ _ _ _ _ _ => ?_
  refine aw_seq fun K1 hK1 => ?_
  refine aw_sr rfl ?_  -- r1
  simp only [go_sem, reduceIte, Nat.reduceEqDiff, Nat.reduceAdd, Nat.reduceMul, Nat.reduceSub, Nat.reduceLeDiff, Nat.reduceLT, reduceCtorEq]
  refine aw_block ?_
  refine aw_lph (S := {n : Nat // n ≤ 4 ∧ ∀ k, k < n → (firstR p k [] t).2 = false}) (fun n => [(6, .int .i64 n.1), (2, .ptr b2 0), (3, .ptr b3 0), (4, .ptr b4 0)]) (fun _ => B) (fun n => 4 - n.1) ⟨0, by decide, fun k h => absurd h (by omega)⟩ ?_ (fun _ _ h => h) ?_
  · simp only [go_sem, reduceIte, Nat.reduceEqDiff, Nat.reduceAdd, Nat.reduceMul, Nat.reduceSub, Nat.reduceLeDiff, Nat.reduceLT, reduceCtorEq, Int.natCast_zero]
  intro ⟨n, hn, he⟩
  simp only
  refine aw_seq fun K2 hK2 => ?_
  refine aw_sr rfl ?_  -- r2
  simp only [go_sem, reduceIte, Nat.reduceEqDiff, Nat.reduceAdd, Nat.reduceMul, Nat.reduceSub, Nat.reduceLeDiff, Nat.reduceLT, reduceCtorEq]
  refine aw_if rfl (fun h => ?_) (fun h => ?_)
  · have hlt : n < 4 := by simp at h; omega
    refine aw_skip (hK2 _ _ ?_)
    refine aw_seq fun K3 hK3 => ?_
    refine aw_block ?_
    refine aw_sr rfl ?_  -- r4
    simp only [go_sem, reduceIte, Nat.reduceEqDiff, Nat.reduceAdd, Nat.reduceMul, Nat.reduceSub, Nat.reduceLeDiff, Nat.reduceLT, reduceCtorEq, h2, h3, e29, cTyp]
    refine goA_by (a_firstOf p hp n [] t .nilp B (by omega) (fun _ h => by cases h) ht rfl) fun r G2 hr => ?_
    obtain ⟨rfl, rfl⟩ := hr
    simp only [go_sem, reduceIte, Nat.reduceEqDiff, Nat.reduceAdd, Nat.reduceMul, Nat.reduceSub, Nat.reduceLeDiff, Nat.reduceLT, reduceCtorEq, firstV, cV]
    intro b7 hb7
    refine aw_box1 hb7 fun C hs h7 => ?_
    have h4' := hs _ _ h4
    refine aw_sr rfl ?_  -- r5
    simp only [go_sem, reduceIte, Nat.reduceEqDiff, Nat.reduceAdd, Nat.reduceMul, Nat.reduceSub, Nat.reduceLeDiff, Nat.reduceLT, reduceCtorEq]
    refine aw_if rfl (fun h => ?_) (fun h => ?_)
    · refine aw_sr rfl ?_  -- r6
      simp only [go_sem, reduceIte, Nat.reduceEqDiff, Nat.reduceAdd, Nat.reduceMul, Nat.reduceSub, Nat.reduceLeDiff, Nat.reduceLT, reduceCtorEq, h4', h7]
      refine aw_ret ⟨trivial, [.agg (cV (firstR p n [] t).1), .int .i64 0], ?_, ?_, sub_hset_fresh hG4 (sub_trans hsB hs)⟩
      · simp only [go_sem, reduceIte, Nat.reduceEqDiff, Nat.reduceAdd, Nat.reduceMul, Nat.reduceSub, Nat.reduceLeDiff, Nat.reduceLT, reduceCtorEq, resL, resOf, hget_hset_self h4']
      rw [leastF_at hlt h he]
      exact Vle.refl _
    refine aw_skip (hK3 _ _ ?_)
    refine aw_rg rfl ?_  -- r3
    simp only [go_sem, reduceIte, Nat.reduceEqDiff, Nat.reduceAdd, Nat.reduceMul, Nat.reduceSub, Nat.reduceLeDiff, Nat.reduceLT, reduceCtorEq, show IntKind.i64.wrap ((n : Int) + 1) = ((n + 1 : Nat) : Int) by rw [wrap64 (by omega) (by omega)]; omega]
    refine ⟨⟨n + 1, by omega, snoc_lt (f := fun k => firstR p k [] t) he h⟩, by show 4 - (n + 1) < 4 - n; omega, ?_, hs⟩
    simp only [go_sem, reduceIte, Nat.reduceEqDiff, Nat.reduceAdd, Nat.reduceMul, Nat.reduceSub, Nat.reduceLeDiff, Nat.reduceLT, reduceCtorEq]
  have h4n : n = 4 := by simp at h; omega
  subst h4n
  refine aw_exit ?_
  refine hK1 _ _ ?_
  refine aw_sr rfl ?_  -- r7
  simp only [go_sem, reduceIte, Nat.reduceEqDiff, Nat.reduceAdd, Nat.reduceMul, Nat.reduceSub, Nat.reduceLeDiff, Nat.reduceLT, reduceCtorEq, h4]
  refine aw_ret ⟨trivial, [.agg [.int .i64 0, .int .i64 0, .str [], .sl [] true .full], .int .i64 4], ?_, ?_, sub_hset_fresh hG4 hsB⟩
  · simp only [go_sem, reduceIte, Nat.reduceEqDiff, Nat.reduceAdd, Nat.reduceMul, Nat.reduceSub, Nat.reduceLeDiff, Nat.reduceLT, reduceCtorEq, resL, resOf, hget_hset_self h4]
  rw [leastF_no he]
  exact zV_le4
end Go.Proofs.Ytclmcpbanaojfaa

/- Slices of numbers and of truths: where one stands, copies. No conditions but sizes. -/
set_option linter.unusedSimpArgs false
set_option linter.unusedVariables false
namespace Go.Proofs.Ytclmcpbanaojfaa
open Go.Proofs.YtclmcpbanaojfaaV
set_option maxHeartbeats 1000000
set_option maxRecDepth 100000
namespace mk
def eN (n : Int) : List V := [.int .i64 n]
theorem wid_eN (l : List Int) : wid 1 (l.map eN) := wid_map (g := eN) (fun _ => rfl) _
theorem sca_eN (l : List Int) : sca (l.map eN) := sca_map (g := eN) (fun a x hx => by simp [eN] at hx; subst hx; rfl) _
def idxF {A : Type} (f : A → Bool) (xs : List A) : Int := if xs.findIdx f < xs.length then (xs.findIdx f : Int) else -1
theorem idxF_at {A : Type} {f : A → Bool} {xs : List A} {i : Nat} (hi : i < xs.length) (h : f xs[i] = true) (hb : ∀ j (hj : j < i), f xs[j] = false) : idxF f xs = (i : Int) := by
  have e : xs.findIdx f = i := (List.findIdx_eq hi).2 ⟨h, fun j hj => hb j hj⟩
  rw [idxF, e, if_pos hi]
theorem idxF_none {A : Type} {f : A → Bool} {xs : List A} (h : ∀ j (hj : j < xs.length), f xs[j] = false) : idxF f xs = -1 := by
  rw [idxF, if_neg]
  intro hlt
  have h1 := List.findIdx_getElem (w := hlt)
  rw [h _ hlt] at h1
  cases h1
theorem idxF_any {A : Type} (f : A → Bool) (xs : List A) : decide (idxF f xs ≥ 0) = xs.any f := by
  rw [Bool.eq_iff_iff, decide_eq_true_eq, List.any_eq_true]
  constructor
  · intro h
    unfold idxF at h
    split at h
    · rename_i hlt; exact ⟨_, List.getElem_mem hlt, List.findIdx_getElem (w := hlt)⟩
    · omega
  · rintro ⟨x, hx, hf⟩
    have := List.findIdx_lt_length_of_exists ⟨x, hx, hf⟩
    rw [idxF, if_pos this]; omega
end mk
open mk in
theorem q_IndexN (xs : List Int) (nl : Bool) (t : Tag) (s : Int) (hx : (xs.length : Int) ≤ 9223372036854775807) :
    Quiet Try.prog 244 [.sl (xs.map eN) nl t, .int .i64 s] (.int .i64 (idxF (fun x => decide (s = x)) xs)) := by
  refine Quiet.weak fun G => ?_
  refine acall_body (rs := [.tmp 4]) Try.func244 rfl rfl Try.ntmps244 (by kernel_rfl) (Nat.le_of_ble_eq_true rfl) ?_
  refine aw_sr rfl ?_
  simp only [go_sem, reduceIte, Nat.reduceEqDiff, Nat.reduceAdd, Nat.reduceMul, Nat.reduceSub, Nat.reduceLeDiff, Nat.reduceLT, reduceCtorEq]
  refine aw_seq fun K1 hK1 => ?_
  refine aw_sr rfl ?_
  simp only [go_sem, reduceIte, Nat.reduceEqDiff, Nat.reduceAdd, Nat.reduceMul, Nat.reduceSub, Nat.reduceLeDiff, Nat.reduceLT, reduceCtorEq]
  refine aw_range xs.length (S := Unit) (fun _ _ => [(0, .sl (xs.map eN) nl t), (1, .int .i64 s)]) (fun _ _ => G) (fun i _ => ∀ j (h : j < xs.length), j < i → decide (s = xs[j]) = false) () hx ?_ (fun _ _ h => h) (fun j _ h => absurd h (by omega)) rfl (fun _ _ => rfl) ?_ ?_ (by decide)
  · simp only [go_sem, reduceIte, Nat.reduceEqDiff, Nat.reduceAdd, Nat.reduceMul, Nat.reduceSub, Nat.reduceLeDiff, Nat.reduceLT, reduceCtorEq, Int.natCast_zero]
  · intro i _ hi he
    refine aw_sr rfl ?_
    simp only [go_sem, reduceIte, Nat.reduceEqDiff, Nat.reduceAdd, Nat.reduceMul, Nat.reduceSub, Nat.reduceLeDiff, Nat.reduceLT, reduceCtorEq]
    refine aw_sr rfl ?_
    simp only [go_sem, reduceIte, Nat.reduceEqDiff, Nat.reduceAdd, Nat.reduceMul, Nat.reduceSub, Nat.reduceLeDiff, Nat.reduceLT, reduceCtorEq, getD_map hi, eN]
    refine ⟨⟨by omega, by omega, wid_eN _⟩, ?_⟩
    refine aw_if rfl (fun h => ?_) (fun h => ?_)
    · refine aw_sr rfl ?_
      simp only [go_sem, reduceIte, Nat.reduceEqDiff, Nat.reduceAdd, Nat.reduceMul, Nat.reduceSub, Nat.reduceLeDiff, Nat.reduceLT, reduceCtorEq]
      refine aw_ret ⟨trivial, _, rfl, ?_, fun _ _ h => h⟩
      rw [idxF_at hi h (fun j hj => he j (by omega) hj)]
      exact Vle.refl _
    · refine aw_skip ⟨(), fun j hj hlt => ?_, ?_, fun _ _ h => h⟩
      · by_cases e : j = i
        · subst e; exact h
        · exact he j hj (by omega)
      simp only [go_sem, reduceIte, Nat.reduceEqDiff, Nat.reduceAdd, Nat.reduceMul, Nat.reduceSub, Nat.reduceLeDiff, Nat.reduceLT, reduceCtorEq]
  · intro _ he
    refine hK1 _ _ ?_
    refine aw_sr rfl ?_
    simp only [go_sem, reduceIte, Nat.reduceEqDiff, Nat.reduceAdd, Nat.reduceMul, Nat.reduceSub, Nat.reduceLeDiff, Nat.reduceLT, reduceCtorEq]
    refine aw_ret ⟨trivial, _, rfl, ?_, fun _ _ h => h⟩
    rw [idxF_none (fun j hj => he j hj hj)]
    exact Vle.refl _
open mk in
theorem q_ContainsN (xs : List Int) (nl : Bool) (t : Tag) (s : Int) (hx : (xs.length : Int) ≤ 9223372036854775807) :
    Quiet Try.prog 203 [.sl (xs.map eN) nl t, .int .i64 s] (.bool (xs.any fun x => decide (s = x))) := by
  refine Quiet.weak fun G => ?_
  refine acall_body (rs := [.tmp 4]) Try.func203 rfl rfl Try.ntmps203 (by kernel_rfl) (Nat.le_of_ble_eq_true rfl) ?_
  refine aw_sr rfl ?_
  simp only [go_sem, reduceIte, Nat.reduceEqDiff, Nat.reduceAdd, Nat.reduceMul, Nat.reduceSub, Nat.reduceLeDiff, Nat.reduceLT, reduceCtorEq]
  refine aw_sr rfl ?_
  simp only [go_sem, reduceIte, Nat.reduceEqDiff, Nat.reduceAdd, Nat.reduceMul, Nat.reduceSub, Nat.reduceLeDiff, Nat.reduceLT, reduceCtorEq]
  refine goA_q (q_IndexN xs nl t s hx) ?_
  simp only [go_sem, reduceIte, Nat.reduceEqDiff, Nat.reduceAdd, Nat.reduceMul, Nat.reduceSub, Nat.reduceLeDiff, Nat.reduceLT, reduceCtorEq]
  refine aw_ret ⟨trivial, _, rfl, ?_, sub_rfl⟩
  rw [← idxF_any]
  exact Vle.refl _
open mk in
theorem q_IndexB (b c : Nat) (xs : List Bool) (s : Bool) (hx : (xs.length : Int) ≤ 9223372036854775807) :
    QuietOn Try.prog [(b, .vars (xs.map V.bool))] 274 [.ms b 0 xs.length c, .bool s] (.int .i64 (idxF (fun x => s == x) xs)) := by
  refine QuietOn.weak fun G hG => ?_
  have h3 := hG _ _ (hget_self _ _ _)
  refine acall_body (rs := [.tmp 4]) Try.func274 rfl rfl Try.ntmps274 (by kernel_rfl) (Nat.le_of_ble_eq_true rfl) ?_
  refine aw_sr rfl ?_
  simp only [go_sem, reduceIte, Nat.reduceEqDiff, Nat.reduceAdd, Nat.reduceMul, Nat.reduceSub, Nat.reduceLeDiff, Nat.reduceLT, reduceCtorEq]
  refine aw_seq fun K1 hK1 => ?_
  refine aw_sr rfl ?_
  simp only [go_sem, reduceIte, Nat.reduceEqDiff, Nat.reduceAdd, Nat.reduceMul, Nat.reduceSub, Nat.reduceLeDiff, Nat.reduceLT, reduceCtorEq]
  refine aw_range xs.length (S := Unit) (fun _ _ => [(0, .ms b 0 xs.length c), (1, .bool s)]) (fun _ _ => G) (fun i _ => ∀ j (h : j < xs.length), j < i → (s == xs[j]) = false) () hx ?_ (fun _ _ h => h) (fun j _ h => absurd h (by omega)) rfl (fun _ _ => rfl) ?_ ?_ (by decide)
  · simp only [go_sem, reduceIte, Nat.reduceEqDiff, Nat.reduceAdd, Nat.reduceMul, Nat.reduceSub, Nat.reduceLeDiff, Nat.reduceLT, reduceCtorEq, Int.natCast_zero]
  · intro i _ hi he
    have hgi : (xs.map V.bool)[i]? = some (.bool xs[i]) := by rw [List.getElem?_map, List.getElem?_eq_getElem hi]; rfl
    refine aw_sr rfl ?_
    simp only [go_sem, reduceIte, Nat.reduceEqDiff, Nat.reduceAdd, Nat.reduceMul, Nat.reduceSub, Nat.reduceLeDiff, Nat.reduceLT, reduceCtorEq]
    refine aw_sr rfl ?_
    simp only [go_sem, reduceIte, Nat.reduceEqDiff, Nat.reduceAdd, Nat.reduceMul, Nat.reduceSub, Nat.reduceLeDiff, Nat.reduceLT, reduceCtorEq, h3, Nat.mul_one, Nat.zero_add, Int.toNat_natCast, hgi]
    refine ⟨⟨by omega, by omega⟩, ?_⟩
    refine aw_if rfl (fun h => ?_) (fun h => ?_)
    · refine aw_sr rfl ?_
      simp only [go_sem, reduceIte, Nat.reduceEqDiff, Nat.reduceAdd, Nat.reduceMul, Nat.reduceSub, Nat.reduceLeDiff, Nat.reduceLT, reduceCtorEq]
      refine aw_ret ⟨trivial, _, rfl, ?_, fun _ _ h => h⟩
      rw [idxF_at hi h (fun j hj => he j (by omega) hj)]
      exact Vle.refl _
    · refine aw_skip ⟨(), fun j hj hlt => ?_, ?_, fun _ _ h => h⟩
      · by_cases e : j = i
        · subst e; exact h
        · exact he j hj (by omega)
      simp only [go_sem, reduceIte, Nat.reduceEqDiff, Nat.reduceAdd, Nat.reduceMul, Nat.reduceSub, Nat.reduceLeDiff, Nat.reduceLT, reduceCtorEq]
  · intro _ he
    refine hK1 _ _ ?_
    refine aw_sr rfl ?_
    simp only [go_sem, reduceIte, Nat.reduceEqDiff, Nat.reduceAdd, Nat.reduceMul, Nat.reduceSub, Nat.reduceLeDiff, Nat.reduceLT, reduceCtorEq]
    refine aw_ret ⟨trivial, _, rfl, ?_, fun _ _ h => h⟩
    rw [idxF_none (fun j hj => he j hj hj)]
    exact Vle.refl _
open mk in
theorem q_ContainsB (b c : Nat) (xs : List Bool) (s : Bool) (hx : (xs.length : Int) ≤ 9223372036854775807) :
    QuietOn Try.prog [(b, .vars (xs.map V.bool))] 247 [.ms b 0 xs.length c, .bool s] (.bool (xs.any fun x => s == x)) := by
  refine QuietOn.weak fun G hG => ?_
  refine acall_body (rs := [.tmp 4]) Try.func247 rfl rfl Try.ntmps247 (by kernel_rfl) (Nat.le_of_ble_eq_true rfl) ?_
  refine aw_sr rfl ?_
  simp only [go_sem, reduceIte, Nat.reduceEqDiff, Nat.reduceAdd, Nat.reduceMul, Nat.reduceSub, Nat.reduceLeDiff, Nat.reduceLT, reduceCtorEq]
  refine aw_sr rfl ?_
  simp only [go_sem, reduceIte, Nat.reduceEqDiff, Nat.reduceAdd, Nat.reduceMul, Nat.reduceSub, Nat.reduceLeDiff, Nat.reduceLT, reduceCtorEq]
  refine goA_on (q_IndexB b c xs s hx) hG ?_
  simp only [go_sem, reduceIte, Nat.reduceEqDiff, Nat.reduceAdd, Nat.reduceMul, Nat.reduceSub, Nat.reduceLeDiff, Nat.reduceLT, reduceCtorEq]
  refine aw_ret ⟨trivial, _, rfl, ?_, sub_rfl⟩
  rw [← idxF_any]
  exact Vle.refl _
open mk in
theorem q_CloneN (l : List Int) (nl : Bool) (t : Tag) (hl : l.length ≤ 1048576) (hnl : nl = true → l = []) : Quiet Try.prog 117 [.sl (l.map eN) nl t] (.sl (l.map eN) nl .no) := by
  refine Quiet.weak fun G => ?_
  refine acall_body (rs := [.tmp 2]) Try.func117 rfl rfl Try.ntmps117 (by kernel_rfl) (Nat.le_of_ble_eq_true rfl) ?_
  refine aw_sr rfl ?_  -- r0
  simp only [go_sem, reduceIte, Nat.reduceEqDiff, Nat.reduceAdd, Nat.reduceMul, Nat.reduceSub, Nat.reduceLeDiff, Nat.reduceLT, reduceCtorEq]
  refine aw_seq fun K1 hK1 => ?_
  refine aw_sr rfl ?_  -- r1
  simp only [go_sem, reduceIte, Nat.reduceEqDiff, Nat.reduceAdd, Nat.reduceMul, Nat.reduceSub, Nat.reduceLeDiff, Nat.reduceLT, reduceCtorEq]
  refine aw_if rfl (fun h => ?_) (fun h => ?_)
  · refine aw_sr rfl ?_  -- r2
    simp only [go_sem, reduceIte, Nat.reduceEqDiff, Nat.reduceAdd, Nat.reduceMul, Nat.reduceSub, Nat.reduceLeDiff, Nat.reduceLT, reduceCtorEq]
    refine aw_ret ⟨trivial, _, rfl, ?_, sub_rfl⟩
    rw [hnl h, h]; exact Vle.untag
  refine aw_skip (hK1 _ _ ?_)
  refine aw_sr rfl ?_  -- r3
  simp only [go_sem, reduceIte, Nat.reduceEqDiff, Nat.reduceAdd, Nat.reduceMul, Nat.reduceSub, Nat.reduceLeDiff, Nat.reduceLT, reduceCtorEq]
  refine goP_rm (G := G) (Rm.start _ _ _) sub_rfl ?_ fun t1 H1 hr1 hs1 hg1 => ?_
  · exact ⟨rfl, rfl, by decide, by simp [wid], wid_eN _, sca_eN _, by simp; omega, by simp; omega⟩
  simp only [go_sem, reduceIte, Nat.reduceEqDiff, Nat.reduceAdd, Nat.reduceMul, Nat.reduceSub, Nat.reduceLeDiff, Nat.reduceLT, reduceCtorEq]
  refine aw_ret ⟨trivial, _, rfl, ?_, hs1⟩
  have h : nl = false := by simpa using h
  rw [h]
  exact Vle.untag
open mk in
theorem q_EqN (xs ys : List Int) (n1 n2 : Bool) (t1 t2 : Tag) (hx : (xs.length : Int) ≤ 9223372036854775807) : Quiet Try.prog 30 [.sl (xs.map eN) n1 t1, .sl (ys.map eN) n2 t2] (.bool (decide (xs = ys))) := by
  intro G
  refine acall_body (rs := [.tmp 4]) Try.func30 rfl rfl Try.ntmps30 (by kernel_rfl) (Nat.le_of_ble_eq_true rfl) ?_
  refine aw_sr rfl ?_
  simp only [go_sem, reduceIte, Nat.reduceEqDiff, Nat.reduceAdd, Nat.reduceMul, Nat.reduceSub, Nat.reduceLeDiff, Nat.reduceLT, reduceCtorEq]
  refine aw_seq fun K2 hK2 => ?_
  refine aw_sr rfl ?_
  simp only [go_sem, reduceIte, Nat.reduceEqDiff, Nat.reduceAdd, Nat.reduceMul, Nat.reduceSub, Nat.reduceLeDiff, Nat.reduceLT, reduceCtorEq]
  refine aw_if rfl (fun h => ?_) (fun h => ?_)
  · refine aw_sr rfl ?_
    simp only [go_sem, reduceIte, Nat.reduceEqDiff, Nat.reduceAdd, Nat.reduceMul, Nat.reduceSub, Nat.reduceLeDiff, Nat.reduceLT, reduceCtorEq]
    refine aw_ret ⟨trivial, _, rfl, ?_⟩
    simp only [decide_eq_true_eq, ne_eq, Int.natCast_inj] at h
    refine ⟨?_, rfl⟩
    rw [decide_eq_false (fun e => h (by rw [e]))]
    rfl
  · refine aw_skip (hK2 _ _ ?_)
    have hl : xs.length = ys.length := by simpa [Int.natCast_inj] using h
    refine aw_seq fun K3 hK3 => ?_
    refine aw_sr rfl ?_
    simp only [go_sem, reduceIte, Nat.reduceEqDiff, Nat.reduceAdd, Nat.reduceMul, Nat.reduceSub, Nat.reduceLeDiff, Nat.reduceLT, reduceCtorEq]
    refine aw_range xs.length (S := Unit) (fun _ _ => [(0, .sl (xs.map eN) n1 t1), (1, .sl (ys.map eN) n2 t2)]) (fun _ _ => G) (fun i _ => xs.take i = ys.take i) () hx ?_ (fun _ _ h => h) rfl rfl (fun _ _ => rfl) ?_ ?_ (by decide)
    · simp only [go_sem, reduceIte, Nat.reduceEqDiff, Nat.reduceAdd, Nat.reduceMul, Nat.reduceSub, Nat.reduceLeDiff, Nat.reduceLT, reduceCtorEq]
    · intro i _ hi he
      refine aw_sr rfl ?_
      simp only [go_sem, reduceIte, Nat.reduceEqDiff, Nat.reduceAdd, Nat.reduceMul, Nat.reduceSub, Nat.reduceLeDiff, Nat.reduceLT, reduceCtorEq]
      refine aw_srd [(0,true),(1,true),(2,true),(3,true),(4,true),(5,true),(6,true),(7,true),(8,true)] mixed rfl (by kernel_rfl) ?_
      simp only [go_sem, reduceIte, Nat.reduceEqDiff, Nat.reduceAdd, Nat.reduceMul, Nat.reduceSub, Nat.reduceLeDiff, Nat.reduceLT, reduceCtorEq, getD_map hi, getD_map (hl ▸ hi), eN]
      refine ⟨⟨by omega, by omega, wid_map (g := eN) (fun _ => rfl) _⟩, ⟨by omega, by omega, wid_map (g := eN) (fun _ => rfl) _⟩, ?_⟩
      refine aw_if rfl (fun h => ?_) (fun h => ?_)
      · refine aw_sr rfl ?_
        simp only [go_sem, reduceIte, Nat.reduceEqDiff, Nat.reduceAdd, Nat.reduceMul, Nat.reduceSub, Nat.reduceLeDiff, Nat.reduceLT, reduceCtorEq]
        refine aw_ret ⟨trivial, _, rfl, ?_⟩
        refine ⟨?_, rfl⟩
        have h : ¬ xs[i] = ys[i]'(hl ▸ hi) := by simpa using h
        rw [decide_eq_false (fun e => h (by subst e; rfl))]
        rfl
      · have h : xs[i] = ys[i]'(hl ▸ hi) := by simpa using h
        refine aw_skip ⟨(), ?_, ?_, fun _ _ h => h⟩
        · rw [List.take_succ_eq_append_getElem hi, List.take_succ_eq_append_getElem (hl ▸ hi), he, h]
        · simp only [go_sem, reduceIte, Nat.reduceEqDiff, Nat.reduceAdd, Nat.reduceMul, Nat.reduceSub, Nat.reduceLeDiff, Nat.reduceLT, reduceCtorEq]
    · intro _ he
      refine hK3 _ _ ?_
      refine aw_sr rfl ?_
      simp only [go_sem, reduceIte, Nat.reduceEqDiff, Nat.reduceAdd, Nat.reduceMul, Nat.reduceSub, Nat.reduceLeDiff, Nat.reduceLT, reduceCtorEq]
      refine aw_ret ⟨trivial, _, rfl, ?_⟩
      rw [List.take_length, hl, List.take_length] at he
      subst he
      rw [decide_eq_true rfl]
      exact ⟨rfl, rfl⟩
end Go.Proofs.Ytclmcpbanaojfaa

/- The way from a program to another one: as data, and what one field of a new state is. -/
set_option linter.unusedSimpArgs false
set_option linter.unusedVariables false
namespace Go.Proofs.Ytclmcpbanaojfaa
open Go.Proofs.YtclmcpbanaojfaaV
set_option maxHeartbeats 4000000
set_option maxRecDepth 100000
namespace rp
theorem okLeaf (k : Int) : OkVal (.mk (leafK k) 0 [] [] true) := by
  refine .mk ?_ (by decide) (by decide) (fun _ => rfl) (by decide) (fun a h => by cases h)
  unfold leafK; split
  · decide
  split
  · decide
  split <;> decide
theorem okZ : OkVal zVal := .mk (by decide) (by decide) (by decide) (fun _ => rfl) (by decide) (fun a h => by cases h)
theorem okS (p : Prgm) (hp : o23 p.2.2.2.1) (d : Int) (F : Typ → Val × Bool) (t : Typ) (ht : OkTyp t) (hF : ∀ a, OkTyp a → OkVal (F a).1) : OkVal (firstS p d F t).1 := by
  unfold firstS
  split
  · exact okLeaf _
  split
  · split
    · rename_i a ha
      split
      · exact okZ
      · exact .mk (by decide) (by decide) (by decide) (fun e => by cases e) (by show 1 ≤ 1048576; decide) (fun v hv => by
          rw [List.mem_singleton] at hv
          subst hv
          exact hF a (ht.arg (by rw [ha]; simp)))
    · exact okZ
  split
  · split
    · exact okZ
    · rename_i m hm
      have hmem := List.mem_of_find?_eq_some hm
      have hsome := List.find?_some hm
      have hname : m.1.length ≤ bulk := by
        cases hdf : dataF p t.name with
        | none => rw [hdf] at hmem; simp [zDat] at hmem
        | some d0 =>
          rw [hdf] at hmem
          exact ((hp.2.2 d0 (List.mem_of_find?_eq_some hdf)).2.2.2.2 m hmem).1
      simp only
      cases hg : gsF p (d - 1) F t m.1 with
      | none => rw [hg] at hsome; cases hsome
      | some l =>
        simp only [Option.getD_some]
        unfold gsF at hg
        cases hmk : makesF p t m.1 with
        | none => rw [hmk] at hg; cases hg
        | some ts =>
          obtain ⟨h6, hts⟩ := makesF_ok hp ht hmk
          rw [hmk] at hg
          simp only at hg
          split at hg
          · cases hg
          · unfold allF at hg
            split at hg
            · cases hg
              refine .mk (by decide) (by decide) hname (fun e => ?_) (by rw [List.length_map]; exact Nat.le_trans h6 (by decide)) (fun v hv => ?_)
              · rwa [List.isEmpty_iff] at e
              · obtain ⟨a, ha, rfl⟩ := List.mem_map.1 hv
                exact hF a (hts a ha)
            · cases hg
  · exact okZ
theorem okP (p : Prgm) (hp : o23 p.2.2.2.1) : ∀ (n : Nat) (t : Typ), OkTyp t → OkVal (firstP p n t).1
  | 0, t, ht => okS p hp 0 _ t ht fun _ _ => okZ
  | n + 1, t, ht => okS p hp _ _ t ht fun a ha => okP p hp n a ha
theorem okLeast {f : Nat → Val × Bool} (h : ∀ n, OkVal (f n).1) : OkVal (leastF f).1 := by
  unfold leastF
  split
  · exact h _
  · exact okZ

end rp
open sm
namespace rp
theorem sameF_cp (T : Al) (x y : List N) : ∀ (n : Nat) (a b : Typ), b.sz ≤ n → sameF T x y a (cpT b) = sameF T x y a b := by
  intro n
  induction n with
  | zero => intro a b h; have := b.sz_eq; omega
  | succ n ih =>
    intro a b hb
    have key : ∀ (us vs : List Typ), (∀ v ∈ vs, v.sz ≤ n) → sameFs T x y us (vs.map cpT) = sameFs T x y us vs := by
      intro us
      induction us with
      | nil => intro vs _; cases vs <;> rfl
      | cons u us ihu =>
        intro vs hv
        cases vs with
        | nil => rfl
        | cons v vs =>
          rw [List.map_cons, sameFs, sameFs, ih u v (hv v (by simp)), ihu vs fun w hw => hv w (by simp [hw])]
    rw [sameF_eq, sameF_eq, cp_eq]
    show (_ && sameFs T x y a.args (b.args.map cpT) && _) = _
    rw [key a.args b.args fun v hv => by have := Typ.sz_args hv; omega]
    rfl
theorem nrm_cp : ∀ (n : Nat) (t : Typ), t.sz ≤ n → nrm (cpT t) = nrm t := by
  intro n
  induction n with
  | zero => intro t h; have := t.sz_eq; omega
  | succ n ih =>
    intro t ht
    rw [nrm_eq, nrm_eq t, cp_eq]
    show Typ.mk t.kind t.name ((t.args.map cpT).map nrm) (t.args.map cpT).isEmpty = _
    rw [List.map_map]
    have h1 : t.args.map (nrm ∘ cpT) = t.args.map nrm := List.map_congr_left fun a ha => ih a (by have := Typ.sz_args ha; omega)
    have h2 : (t.args.map cpT).isEmpty = t.args.isEmpty := by cases t.args <;> rfl
    rw [h1, h2]
theorem first_cp (p : Prgm) (n : Nat) (t : Typ) : firstP p n (cpT t) = firstP p n t := by
  rw [first_same p n (cpT t) [] t (nrm_cp t.sz t (Nat.le_refl _)), first_same p n t [] t rfl]
theorem ok_cp : ∀ (n : Nat) (t : Typ), t.sz ≤ n → OkTyp t → OkTyp (cpT t) := by
  intro n
  induction n with
  | zero => intro t h; have := t.sz_eq; omega
  | succ n ih =>
    intro t ht ho
    rw [cp_eq]
    refine .mk ho.kind ho.name (fun e => ?_) (by rw [List.length_map]; exact ho.len) fun a ha => ?_
    · rw [List.isEmpty_iff] at e; rw [e]; rfl
    · obtain ⟨c, hc, rfl⟩ := List.mem_map.1 ha
      exact ih c (by have := Typ.sz_args hc; omega) (ho.arg hc)
/-! ### Ways as data -/
abbrev Fd := Int × Val
def eFd (f : Fd) : List V := [.int .i64 f.1, .int .i64 f.2.kind, .int .i64 f.2.num, .str f.2.text, .sl (f.2.args.map eVal) f.2.nl .no]
abbrev Mv := N × Int × List Fd × List Int
def eMv (m : Mv) : List V := [.str m.1, .int .i64 m.2.1, .sl (m.2.2.1.map eFd) m.2.2.1.isEmpty .no, .sl (m.2.2.2.map mk.eN) m.2.2.2.isEmpty .no]
theorem wid_eFd (l : List rp.Fd) : wid 5 (l.map eFd) := wid_map (g := eFd) (fun _ => rfl) _
theorem wid_eMv (l : List rp.Mv) : wid 4 (l.map eMv) := wid_map (g := eMv) (fun _ => rfl) _
def zFd : Fd := (0, zVal)
def newF (q : Prgm) (t : Typ) : Fd × Int := let r := leastF fun k => firstP q k t; if r.2 = 0 then ((-1, r.1), 0) else (zFd, 8)
/-- A field of a new state, and what is wrong. -/
noncomputable def fieldF (p q : Prgm) (a : Acr) (n : N) (t : Typ) : Fd × Int := match a.2.1.1.findIdx? (fun x => decide (n = x)) with
  | some i => if sameF (big p q) [] [] (a.2.2.1.1.getD i zTyp) t = true then (((i : Nat), zVal), 0) else (zFd, 12)
  | none => newF q t
def fdV (r : Fd × Int) : V := .tup [.agg (eFd r.1), .int .i64 r.2]
end rp
open rp
theorem a_EqualF (F : FuncId) (us ws : List V) (xs ys : List rp.Fd) (n1 n2 : Bool) (t1 t2 : Tag) (I : Nat → Heap → Prop) (Q : Bool → Heap → Prop) (G : Heap) (hx : (xs.length : Int) ≤ 9223372036854775807)
    (hne : xs.length ≠ ys.length → Q false G) (h0 : xs.length = ys.length → I 0 G) (hI : ∀ i H H', I i H → Sub H H' → I i H')
    (hF : ∀ i (hi : i < xs.length) (hj : i < ys.length) H, I i H → ACall Try.prog F (us ++ [.agg (eFd xs[i]), .agg (eFd ys[i])] ++ ws) (fun y H' => ∃ r, y = .bool r ∧ (r = true → I (i + 1) H') ∧ (r = false → Q false H')) H)
    (hend : ∀ H, xs.length = ys.length → I xs.length H → Q true H) :
    ACall Try.prog 127 [.sl (xs.map eFd) n1 t1, .sl (ys.map eFd) n2 t2, .func (.func F) us ws] (fun y H => ∃ r, y = .bool r ∧ Q r H) G := by
  refine acall_body (rs := [.tmp 6]) Try.func127 rfl rfl Try.ntmps127 (by kernel_rfl) (Nat.le_of_ble_eq_true rfl) ?_
  refine aw_sr rfl ?_
  simp only [go_sem, reduceIte, Nat.reduceEqDiff, Nat.reduceAdd, Nat.reduceMul, Nat.reduceSub, Nat.reduceLeDiff, Nat.reduceLT, reduceCtorEq]
  refine aw_seq fun K1 hK1 => ?_
  refine aw_sr rfl ?_
  simp only [go_sem, reduceIte, Nat.reduceEqDiff, Nat.reduceAdd, Nat.reduceMul, Nat.reduceSub, Nat.reduceLeDiff, Nat.reduceLT, reduceCtorEq]
  refine aw_if rfl (fun h => ?_) (fun h => ?_)
  · refine aw_sr rfl ?_
    simp only [go_sem, reduceIte, Nat.reduceEqDiff, Nat.reduceAdd, Nat.reduceMul, Nat.reduceSub, Nat.reduceLeDiff, Nat.reduceLT, reduceCtorEq]
    have h : ¬ xs.length = ys.length := by simpa [Int.natCast_inj] using h
    exact aw_ret ⟨trivial, _, rfl, false, rfl, hne h⟩
  refine aw_skip (hK1 _ _ ?_)
  have hl : xs.length = ys.length := by simpa [Int.natCast_inj] using h
  refine aw_seq fun K2 hK2 => ?_
  refine aw_sr rfl ?_
  simp only [go_sem, reduceIte, Nat.reduceEqDiff, Nat.reduceAdd, Nat.reduceMul, Nat.reduceSub, Nat.reduceLeDiff, Nat.reduceLT, reduceCtorEq]
  refine aw_range xs.length (S := Heap) (fun _ _ => [(15, .sl (xs.map eFd) n1 t1), (1, .sl (ys.map eFd) n2 t2), (2, .func (.func F) us ws)]) (fun _ s => s) (fun i s => I i s) G hx ?_ (fun _ _ h => h) (h0 hl) rfl (fun _ _ => rfl) ?_ ?_ (by decide)
  · simp only [go_sem, reduceIte, Nat.reduceEqDiff, Nat.reduceAdd, Nat.reduceMul, Nat.reduceSub, Nat.reduceLeDiff, Nat.reduceLT, reduceCtorEq, Int.natCast_zero]
  · intro i H hi hIi
    have hi2 : i < ys.length := hl ▸ hi
    refine aw_sr rfl ?_
    simp only [go_sem, reduceIte, Nat.reduceEqDiff, Nat.reduceAdd, Nat.reduceMul, Nat.reduceSub, Nat.reduceLeDiff, Nat.reduceLT, reduceCtorEq, getD_map hi, getD_map hi2, eFd]
    refine ⟨⟨by omega, by omega, wid_map (g := eFd) (fun _ => by simp [eFd]) _⟩, ?_⟩
    intro b hb
    refine aw_box1 hb fun B1 hs1 h8 => ?_
    refine aw_sr rfl ?_
    simp only [go_sem, reduceIte, Nat.reduceEqDiff, Nat.reduceAdd, Nat.reduceMul, Nat.reduceSub, Nat.reduceLeDiff, Nat.reduceLT, reduceCtorEq, getD_map hi, getD_map hi2, eFd]
    refine ⟨⟨by omega, by omega, wid_map (g := eFd) (fun _ => by simp [eFd]) _⟩, ?_⟩
    intro b2 hb2
    refine aw_box1 hb2 fun B2 hs2 h9 => ?_
    replace h8 := hs2 _ _ h8
    refine aw_sr rfl ?_
    simp only [go_sem, reduceIte, Nat.reduceEqDiff, Nat.reduceAdd, Nat.reduceMul, Nat.reduceSub, Nat.reduceLeDiff, Nat.reduceLT, reduceCtorEq, h8, h9]
    have hq := hF i hi hi2 B2 (hI _ _ _ (hI _ _ _ hIi hs1) hs2)
    refine goA_by hq fun y H' hy => ?_
    obtain ⟨r, rfl, hr1, hr2⟩ := hy
    simp only [go_sem, reduceIte, Nat.reduceEqDiff, Nat.reduceAdd, Nat.reduceMul, Nat.reduceSub, Nat.reduceLeDiff, Nat.reduceLT, reduceCtorEq]
    refine aw_if rfl (fun h => ?_) (fun h => ?_)
    · refine aw_sr rfl ?_
      simp only [go_sem, reduceIte, Nat.reduceEqDiff, Nat.reduceAdd, Nat.reduceMul, Nat.reduceSub, Nat.reduceLeDiff, Nat.reduceLT, reduceCtorEq]
      have hr : r = false := by simpa using h
      exact aw_ret ⟨trivial, _, rfl, false, rfl, hr2 hr⟩
    have hr : r = true := by simpa using h
    refine aw_skip ⟨H', hr1 hr, ?_, sub_rfl⟩
    simp only [go_sem, reduceIte, Nat.reduceEqDiff, Nat.reduceAdd, Nat.reduceMul, Nat.reduceSub, Nat.reduceLeDiff, Nat.reduceLT, reduceCtorEq]
  intro H hIn
  refine hK2 _ _ ?_
  refine aw_sr rfl ?_
  simp only [go_sem, reduceIte, Nat.reduceEqDiff, Nat.reduceAdd, Nat.reduceMul, Nat.reduceSub, Nat.reduceLeDiff, Nat.reduceLT, reduceCtorEq]
  exact aw_ret ⟨trivial, _, rfl, true, rfl, hend H hl hIn⟩
theorem a_EqualV (F : FuncId) (us ws : List V) (xs ys : List rp.Mv) (n1 n2 : Bool) (t1 t2 : Tag) (I : Nat → Heap → Prop) (Q : Bool → Heap → Prop) (G : Heap) (hx : (xs.length : Int) ≤ 9223372036854775807)
    (hne : xs.length ≠ ys.length → Q false G) (h0 : xs.length = ys.length → I 0 G) (hI : ∀ i H H', I i H → Sub H H' → I i H')
    (hF : ∀ i (hi : i < xs.length) (hj : i < ys.length) H, I i H → ACall Try.prog F (us ++ [.agg (eMv xs[i]), .agg (eMv ys[i])] ++ ws) (fun y H' => ∃ r, y = .bool r ∧ (r = true → I (i + 1) H') ∧ (r = false → Q false H')) H)
    (hend : ∀ H, xs.length = ys.length → I xs.length H → Q true H) :
    ACall Try.prog 125 [.sl (xs.map eMv) n1 t1, .sl (ys.map eMv) n2 t2, .func (.func F) us ws] (fun y H => ∃ r, y = .bool r ∧ Q r H) G := by
  refine acall_body (rs := [.tmp 6]) Try.func125 rfl rfl Try.ntmps125 (by kernel_rfl) (Nat.le_of_ble_eq_true rfl) ?_
  refine aw_sr rfl ?_
  simp only [go_sem, reduceIte, Nat.reduceEqDiff, Nat.reduceAdd, Nat.reduceMul, Nat.reduceSub, Nat.reduceLeDiff, Nat.reduceLT, reduceCtorEq]
  refine aw_seq fun K1 hK1 => ?_
  refine aw_sr rfl ?_
  simp only [go_sem, reduceIte, Nat.reduceEqDiff, Nat.reduceAdd, Nat.reduceMul, Nat.reduceSub, Nat.reduceLeDiff, Nat.reduceLT, reduceCtorEq]
  refine aw_if rfl (fun h => ?_) (fun h => ?_)
  · refine aw_sr rfl ?_
    simp only [go_sem, reduceIte, Nat.reduceEqDiff, Nat.reduceAdd, Nat.reduceMul, Nat.reduceSub, Nat.reduceLeDiff, Nat.reduceLT, reduceCtorEq]
    have h : ¬ xs.length = ys.length := by simpa [Int.natCast_inj] using h
    exact aw_ret ⟨trivial, _, rfl, false, rfl, hne h⟩
  refine aw_skip (hK1 _ _ ?_)
  have hl : xs.length = ys.length := by simpa [Int.natCast_inj] using h
  refine aw_seq fun K2 hK2 => ?_
  refine aw_sr rfl ?_
  simp only [go_sem, reduceIte, Nat.reduceEqDiff, Nat.reduceAdd, Nat.reduceMul, Nat.reduceSub, Nat.reduceLeDiff, Nat.reduceLT, reduceCtorEq]
  refine aw_range xs.length (S := Heap) (fun _ _ => [(15, .sl (xs.map eMv) n1 t1), (1, .sl (ys.map eMv) n2 t2), (2, .func (.func F) us ws)]) (fun _ s => s) (fun i s => I i s) G hx ?_ (fun _ _ h => h) (h0 hl) rfl (fun _ _ => rfl) ?_ ?_ (by decide)
  · simp only [go_sem, reduceIte, Nat.reduceEqDiff, Nat.reduceAdd, Nat.reduceMul, Nat.reduceSub, Nat.reduceLeDiff, Nat.reduceLT, reduceCtorEq, Int.natCast_zero]
  · intro i H hi hIi
    have hi2 : i < ys.length := hl ▸ hi
    refine aw_sr rfl ?_
    simp only [go_sem, reduceIte, Nat.reduceEqDiff, Nat.reduceAdd, Nat.reduceMul, Nat.reduceSub, Nat.reduceLeDiff, Nat.reduceLT, reduceCtorEq, getD_map hi, getD_map hi2, eMv]
    refine ⟨⟨by omega, by omega, wid_map (g := eMv) (fun _ => by simp [eMv]) _⟩, ?_⟩
    intro b hb
    refine aw_box1 hb fun B1 hs1 h8 => ?_
    refine aw_sr rfl ?_
    simp only [go_sem, reduceIte, Nat.reduceEqDiff, Nat.reduceAdd, Nat.reduceMul, Nat.reduceSub, Nat.reduceLeDiff, Nat.reduceLT, reduceCtorEq, getD_map hi, getD_map hi2, eMv]
    refine ⟨⟨by omega, by omega, wid_map (g := eMv) (fun _ => by simp [eMv]) _⟩, ?_⟩
    intro b2 hb2
    refine aw_box1 hb2 fun B2 hs2 h9 => ?_
    replace h8 := hs2 _ _ h8
    refine aw_sr rfl ?_
    simp only [go_sem, reduceIte, Nat.reduceEqDiff, Nat.reduceAdd, Nat.reduceMul, Nat.reduceSub, Nat.reduceLeDiff, Nat.reduceLT, reduceCtorEq, h8, h9]
    have hq := hF i hi hi2 B2 (hI _ _ _ (hI _ _ _ hIi hs1) hs2)
    refine goA_by hq fun y H' hy => ?_
    obtain ⟨r, rfl, hr1, hr2⟩ := hy
    simp only [go_sem, reduceIte, Nat.reduceEqDiff, Nat.reduceAdd, Nat.reduceMul, Nat.reduceSub, Nat.reduceLeDiff, Nat.reduceLT, reduceCtorEq]
    refine aw_if rfl (fun h => ?_) (fun h => ?_)
    · refine aw_sr rfl ?_
      simp only [go_sem, reduceIte, Nat.reduceEqDiff, Nat.reduceAdd, Nat.reduceMul, Nat.reduceSub, Nat.reduceLeDiff, Nat.reduceLT, reduceCtorEq]
      have hr : r = false := by simpa using h
      exact aw_ret ⟨trivial, _, rfl, false, rfl, hr2 hr⟩
    have hr : r = true := by simpa using h
    refine aw_skip ⟨H', hr1 hr, ?_, sub_rfl⟩
    simp only [go_sem, reduceIte, Nat.reduceEqDiff, Nat.reduceAdd, Nat.reduceMul, Nat.reduceSub, Nat.reduceLeDiff, Nat.reduceLT, reduceCtorEq]
  intro H hIn
  refine hK2 _ _ ?_
  refine aw_sr rfl ?_
  simp only [go_sem, reduceIte, Nat.reduceEqDiff, Nat.reduceAdd, Nat.reduceMul, Nat.reduceSub, Nat.reduceLeDiff, Nat.reduceLT, reduceCtorEq]
  exact aw_ret ⟨trivial, _, rfl, true, rfl, hend H hl hIn⟩

theorem q_field (p q : Prgm) (hp : o23 p.2.2.2.1) (hq : o23 q.2.2.2.1) (a : Acr) (n : N) (t : Typ) (oa : o42 a) (hlen : a.2.1.1.length = a.2.2.1.1.length) (ht : OkTyp t) :
    Quiet Try.prog 209 [.agg (cPrg p), .agg (cPrg q), .agg (eAcr a), .str n, .agg (cTyp (cpT t))] (fdV (fieldF p q a n t)) := by
  have hal : a.2.1.1.length ≤ 1048576 := oa.2.1.2.1
  have hF := q_First q hq (cpT t) (ok_cp _ t (Nat.le_refl _) ht)
  rw [show (fun n => firstP q n (cpT t)) = fun n => firstP q n t from funext fun n => first_cp q n t] at hF
  refine Quiet.weak fun G => ?_
  refine acall_body (rs := [.cell 10 297, .tmp 11]) Try.func209 rfl rfl Try.ntmps209 (by kernel_rfl) (Nat.le_of_ble_eq_true rfl) ?_
  refine aw_sr rfl ?_  -- r0 @renew.go:32
  simp only [go_sem, reduceIte, Nat.reduceEqDiff, Nat.reduceAdd, Nat.reduceMul, Nat.reduceSub, Nat.reduceLeDiff, Nat.reduceLT, reduceCtorEq]
  intro b5 hb5 b6 hb6 b7 hb7 b9 hb9 b10 hb10
  obtain ⟨_, c1⟩ := fresh_cons hb10
  obtain ⟨_, c2⟩ := fresh_cons c1
  obtain ⟨_, c3⟩ := fresh_cons c2
  obtain ⟨_, c4⟩ := fresh_cons c3
  refine aw_box4 hb6 hb7 hb9 hb10 fun B1 hs1 h6 h7 h9 h10 => ?_
  have h5 := hs1 _ _ (hget_self b5 (.vars (cPrg p)) G)
  replace hs1 := sub_trans (sub_tail hb5) hs1
  clear hb5 hb6 hb7 hb9 hb10 c1 c2 c3
  simp only [e29, e42] at h5 h6 h7
  refine aw_sr rfl ?_  -- r1 @renew.go:33
  simp only [go_sem, reduceIte, Nat.reduceEqDiff, Nat.reduceAdd, Nat.reduceMul, Nat.reduceSub, Nat.reduceLeDiff, Nat.reduceLT, reduceCtorEq, h7]
  refine goA_q (q_IndexStr a.2.1.1 a.2.1.2 .no n (by omega)) ?_
  simp only [go_sem, reduceIte, Nat.reduceEqDiff, Nat.reduceAdd, Nat.reduceMul, Nat.reduceSub, Nat.reduceLeDiff, Nat.reduceLT, reduceCtorEq]
  refine aw_seq fun K1 hK1 => ?_
  refine aw_sr rfl ?_  -- r2 @renew.go:34
  have hE : fieldF p q a n t = fieldF p q a n t := rfl
  conv at hE => lhs; unfold fieldF
  cases hi : a.2.1.1.findIdx? (fun x => decide (n = x)) with
  | some i =>
    have hil : i < a.2.1.1.length := (List.findIdx?_eq_some_iff_getElem.1 hi).1
    have hil2 : i < a.2.2.1.1.length := by omega
    rw [hi] at hE
    simp only at hE
    have hg : a.2.2.1.1.getD i zTyp = a.2.2.1.1[i] := by rw [List.getD_eq_getElem?_getD, List.getElem?_eq_getElem hil2]; rfl
    rw [hg] at hE
    have d1 : decide ((i : Int) ≥ 0) = true := decide_eq_true (by omega)
    have d1' : decide (0 ≤ (i : Int)) = true := decide_eq_true (by omega)
    have d2 : decide ((i : Int) < (a.2.2.1.1.length : Int)) = true := decide_eq_true (by omega)
    have hS := q_SameS hp hq (oa.2.2.1.2.2 _ (List.getElem_mem hil2)) (b := cpT t)
    rw [sameF_cp _ _ _ _ _ t (Nat.le_refl _)] at hS
    simp only [e29] at hS
    simp only [go_sem, reduceIte, Nat.reduceEqDiff, Nat.reduceAdd, Nat.reduceMul, Nat.reduceSub, Nat.reduceLeDiff, Nat.reduceLT, reduceCtorEq, h7, ixI, d1, d1', d2, List.length_map, true_imp_iff]
    refine aw_if rfl (fun h => ?_) (fun h => by cases h)
    refine aw_seq fun K2 hK2 => ?_
    refine aw_srd [(0,true),(1,true),(2,true),(3,true),(4,true),(5,true),(6,true),(7,true),(8,true),(9,true)] mixed rfl (by kernel_rfl) ?_  -- r3 @renew.go:35
    simp only [go_sem, reduceIte, Nat.reduceEqDiff, Nat.reduceAdd, Nat.reduceMul, Nat.reduceSub, Nat.reduceLeDiff, Nat.reduceLT, reduceCtorEq, h5, h6, h7, h9, getD_map hil2, eTyp_eq, cTyp]
    refine ⟨⟨by omega, by omega, wid_eTyp _⟩, ?_⟩
    refine goQ_by hS ?_
    simp only [go_sem, reduceIte, Nat.reduceEqDiff, Nat.reduceAdd, Nat.reduceMul, Nat.reduceSub, Nat.reduceLeDiff, Nat.reduceLT, reduceCtorEq]
    cases hs : sameF (big p q) [] [] a.2.2.1.1[i] t with
    | false =>
      rw [if_neg (by rw [hs]; simp)] at hE
      refine aw_if rfl (fun h => ?_) (fun h => by cases h)
      refine aw_sr rfl ?_  -- r4 @renew.go:36
      simp only [go_sem, reduceIte, Nat.reduceEqDiff, Nat.reduceAdd, Nat.reduceMul, Nat.reduceSub, Nat.reduceLeDiff, Nat.reduceLT, reduceCtorEq, h10]
      refine aw_ret ⟨trivial, ?_⟩
      simp only [go_sem, reduceIte, Nat.reduceEqDiff, Nat.reduceAdd, Nat.reduceMul, Nat.reduceSub, Nat.reduceLeDiff, Nat.reduceLT, reduceCtorEq, resL, resOf, hget_hset_self h10]
      refine ⟨_, rfl, ?_, sub_hset_fresh c4 hs1⟩
      rw [← hE]
      exact Vle.tupL (.cons (Vle.aggL (by repeat (first | exact .nil | refine .cons (Vle.refl _) ?_ | refine .cons Vle.untag ?_ | refine .cons (Vle.aggL ?_) ?_ | refine .cons (Vle.slE ?_) ?_))) (.cons (Vle.refl _) .nil))
    | true =>
      rw [if_pos hs] at hE
      refine aw_if rfl (fun h => by cases h) (fun h => ?_)
      refine aw_skip (hK2 _ _ ?_)
      refine aw_sr rfl ?_  -- r5 @renew.go:38
      simp only [go_sem, reduceIte, Nat.reduceEqDiff, Nat.reduceAdd, Nat.reduceMul, Nat.reduceSub, Nat.reduceLeDiff, Nat.reduceLT, reduceCtorEq, h10]
      refine aw_ret ⟨trivial, ?_⟩
      simp only [go_sem, reduceIte, Nat.reduceEqDiff, Nat.reduceAdd, Nat.reduceMul, Nat.reduceSub, Nat.reduceLeDiff, Nat.reduceLT, reduceCtorEq, resL, resOf, hget_hset_self h10]
      refine ⟨_, rfl, ?_, sub_hset_fresh c4 hs1⟩
      rw [← hE]
      exact Vle.tupL (.cons (Vle.aggL (by repeat (first | exact .nil | refine .cons (Vle.refl _) ?_ | refine .cons Vle.untag ?_ | refine .cons (Vle.aggL ?_) ?_ | refine .cons (Vle.slE ?_) ?_))) (.cons (Vle.refl _) .nil))
  | none =>
    rw [hi] at hE
    simp only [newF] at hE
    have d1 : decide ((-1 : Int) ≥ 0) = false := rfl
    have d1' : decide (0 ≤ (-1 : Int)) = false := rfl
    simp only [go_sem, reduceIte, Nat.reduceEqDiff, Nat.reduceAdd, Nat.reduceMul, Nat.reduceSub, Nat.reduceLeDiff, Nat.reduceLT, reduceCtorEq, h7, ixI, d1, d1', true_imp_iff, false_imp_iff, Bool.false_eq_true]
    repeat' first
      | (refine sm.goG_off fun v => ?_
         simp only [go_sem, reduceIte, Nat.reduceEqDiff, Nat.reduceAdd, Nat.reduceMul, Nat.reduceSub, Nat.reduceLeDiff, Nat.reduceLT, reduceCtorEq, h7, true_imp_iff, false_imp_iff, Bool.false_eq_true])
    refine aw_if rfl (fun h => by cases h) (fun h => ?_)
    refine aw_skip (hK1 _ _ ?_)
    generalize (leastF fun k => firstP q k t) = r at hE hF
    obtain ⟨v, e⟩ := r
    simp only [e29, leastV, cV] at hF
    refine aw_sr rfl ?_  -- r6 @renew.go:40
    simp only [go_sem, reduceIte, Nat.reduceEqDiff, Nat.reduceAdd, Nat.reduceMul, Nat.reduceSub, Nat.reduceLeDiff, Nat.reduceLT, reduceCtorEq, h6, h9]
    refine goA_q hF ?_
    simp only [go_sem, reduceIte, Nat.reduceEqDiff, Nat.reduceAdd, Nat.reduceMul, Nat.reduceSub, Nat.reduceLeDiff, Nat.reduceLT, reduceCtorEq]
    intro b13 hb13
    refine aw_box1 hb13 fun B2 hs2 h13 => ?_
    replace h10 := hs2 _ _ h10
    replace hs1 := sub_trans hs1 hs2
    refine aw_seq fun K3 hK3 => ?_
    refine aw_sr rfl ?_  -- r7 @renew.go:41
    simp only [go_sem, reduceIte, Nat.reduceEqDiff, Nat.reduceAdd, Nat.reduceMul, Nat.reduceSub, Nat.reduceLeDiff, Nat.reduceLT, reduceCtorEq]
    refine aw_if rfl (fun h => ?_) (fun h => ?_)
    · have he : ¬ e = 0 := by simpa using h
      simp only [if_neg he] at hE
      refine aw_sr rfl ?_  -- r8 @renew.go:42
      simp only [go_sem, reduceIte, Nat.reduceEqDiff, Nat.reduceAdd, Nat.reduceMul, Nat.reduceSub, Nat.reduceLeDiff, Nat.reduceLT, reduceCtorEq, h10]
      refine aw_ret ⟨trivial, ?_⟩
      simp only [go_sem, reduceIte, Nat.reduceEqDiff, Nat.reduceAdd, Nat.reduceMul, Nat.reduceSub, Nat.reduceLeDiff, Nat.reduceLT, reduceCtorEq, resL, resOf, hget_hset_self h10]
      refine ⟨_, rfl, ?_, sub_hset_fresh c4 hs1⟩
      rw [← hE]
      exact Vle.tupL (.cons (Vle.aggL (by repeat (first | exact .nil | refine .cons (Vle.refl _) ?_ | refine .cons Vle.untag ?_ | refine .cons (Vle.aggL ?_) ?_ | refine .cons (Vle.slE ?_) ?_))) (.cons (Vle.refl _) .nil))
    have he : e = 0 := by simpa using h
    simp only [if_pos he] at hE
    refine aw_skip (hK3 _ _ ?_)
    refine aw_sr rfl ?_  -- r9 @renew.go:44
    simp only [go_sem, reduceIte, Nat.reduceEqDiff, Nat.reduceAdd, Nat.reduceMul, Nat.reduceSub, Nat.reduceLeDiff, Nat.reduceLT, reduceCtorEq, h13, h10]
    refine aw_ret ⟨trivial, ?_⟩
    simp only [go_sem, reduceIte, Nat.reduceEqDiff, Nat.reduceAdd, Nat.reduceMul, Nat.reduceSub, Nat.reduceLeDiff, Nat.reduceLT, reduceCtorEq, resL, resOf, hget_hset_self h10]
    refine ⟨_, rfl, ?_, sub_hset_fresh c4 hs1⟩
    rw [← hE]
    exact Vle.tupL (.cons (Vle.aggL (by repeat (first | exact .nil | refine .cons (Vle.refl _) ?_ | refine .cons Vle.untag ?_ | refine .cons (Vle.aggL ?_) ?_ | refine .cons (Vle.slE ?_) ?_))) (.cons (Vle.refl _) .nil))
end Go.Proofs.Ytclmcpbanaojfaa

/- The way from a program to another one, as data: what is wrong first, what is lost. -/
set_option linter.unusedSimpArgs false
set_option linter.unusedVariables false
namespace Go.Proofs.Ytclmcpbanaojfaa
open Go.Proofs.YtclmcpbanaojfaaV
open sm
namespace rp
/-- What is wrong first. -/
def errF {A B : Type} (g : A → B × Int) : List A → Int
  | [] => 0
  | x :: xs => if (g x).2 = 0 then errF g xs else (g x).2
theorem errF_at {A B : Type} {g : A → B × Int} : ∀ {l : List A} {i : Nat} (hi : i < l.length), (∀ j (hj : j < l.length), j < i → (g l[j]).2 = 0) → ¬ (g l[i]).2 = 0 → errF g l = (g l[i]).2
  | x :: xs, 0, hi, h, he => by rw [errF]; exact if_neg he
  | x :: xs, i + 1, hi, h, he => by
    have h0 : (g x).2 = 0 := h 0 (by simp) (by omega)
    rw [errF, if_pos h0]
    exact errF_at (by simpa using hi) (fun j hj hlt => h (j + 1) (by simp; omega) (by omega)) he
theorem errF_none {A B : Type} {g : A → B × Int} : ∀ {l : List A}, (∀ j (hj : j < l.length), (g l[j]).2 = 0) → errF g l = 0
  | [], h => rfl
  | x :: xs, h => by
    have h0 : (g x).2 = 0 := h 0 (by simp)
    rw [errF, if_pos h0]
    exact errF_none fun j hj => h (j + 1) (by simp; omega)
def zMv : Mv := ([], 0, [], [])
def lostF (n : Nat) (fs : List Fd) : List Int := ((List.range n).filter fun (i : Nat) => !fs.any fun f => decide (f.1 = (i : Int))).map fun (i : Nat) => (i : Int)
theorem lostF_next (n : Nat) (fs : List Fd) : lostF (n + 1) fs = lostF n fs ++ if fs.any (fun f => decide (f.1 = (n : Int))) = true then [] else [(n : Int)] := by
  unfold lostF
  rw [List.range_succ, List.filter_append, List.map_append]
  congr 1
  cases h : fs.any (fun f => decide (f.1 = (n : Int))) <;> simp [h]
theorem lostF_len (n : Nat) (fs : List Fd) : (lostF n fs).length ≤ n := by
  unfold lostF
  rw [List.length_map]
  exact Nat.le_trans (List.length_filter_le _ _) (by simp)
noncomputable def fldG (p q : Prgm) (a : Acr) (x : N × Typ) : Fd × Int := fieldF p q a x.1 x.2
noncomputable def fldL (p q : Prgm) (a b : Acr) : List Fd := (b.2.1.1.zip b.2.2.1.1).map fun x => (fldG p q a x).1
noncomputable def moveF (p q : Prgm) (a : Acr) : Mv × Int := match acrF q a.1 with
  | none => (zMv, 4)
  | some b =>
    if a.2.1.1.length ≠ a.2.2.1.1.length ∨ b.2.1.1.length ≠ b.2.2.1.1.length then (zMv, 3)
    else if sameF (big p q) [] [] a.2.2.2.1 b.2.2.2.1 = true then
      if errF (fldG p q a) (b.2.1.1.zip b.2.2.1.1) = 0 then ((a.1, a.2.1.1.length, fldL p q a b, lostF a.2.1.1.length (fldL p q a b)), 0)
      else (zMv, errF (fldG p q a) (b.2.1.1.zip b.2.2.1.1))
    else (zMv, 12)
noncomputable def wayF (p q : Prgm) : List Mv × Int :=
  if errF (moveF p q) p.2.2.2.2.2.2.2.1 = 0 then (p.2.2.2.2.2.2.2.1.map fun a => (moveF p q a).1, 0) else ([], errF (moveF p q) p.2.2.2.2.2.2.2.1)
def mvV (r : Mv × Int) : V := .tup [.agg (eMv r.1), .int .i64 r.2]
def wayV (r : List Mv × Int) : V := .tup [.agg [.sl (r.1.map eMv) r.1.isEmpty .no], .int .i64 r.2]
end rp
end Go.Proofs.Ytclmcpbanaojfaa

/- The way from a program to another one: the program's. No conditions but sizes. -/
set_option linter.unusedSimpArgs false
set_option linter.unusedVariables false
namespace Go.Proofs.Ytclmcpbanaojfaa
open Go.Proofs.YtclmcpbanaojfaaV
open rp
open sm
open mk (idxF idxF_at idxF_none idxF_any)
set_option maxHeartbeats 4000000
set_option maxRecDepth 100000
namespace rp
abbrev aFd (f : rp.Fd) : V := .agg (eFd f)
/-- Variables of G stand in H, but for one. -/
def KeepV (c : Nat) (G H : Heap) : Prop := ∀ b cs, hget G b = some (.vars cs) → ¬ b = c → hget H b = some (.vars cs)
theorem KeepV.refl (c : Nat) (G : Heap) : KeepV c G G := fun _ _ h _ => h
theorem KeepV.sub {c : Nat} {G H H' : Heap} (h : KeepV c G H) (hs : Sub H H') : KeepV c G H' := fun b cs hb hn => hs _ _ (h b cs hb hn)
theorem KeepV.grow {c : Nat} {G H H' : Heap} {t t' : Tag} (h : KeepV c G H) (hg : Grow H t H' t') : KeepV c G H' := fun b cs hb hn => hg.vars (h b cs hb hn)
theorem KeepV.set {c : Nat} {G H : Heap} {x : AObj} (h : KeepV c G H) : KeepV c G (hset H c x) := fun b cs hb hn => hset_keep (h b cs hb hn) hn
theorem KeepV.set2 {c d : Nat} {G H : Heap} {x : AObj} (h : KeepV c G H) (hd : hget G d = none) : KeepV c G (hset H d x) := fun b cs hb hn => hset_keep (h b cs hb hn) fun e => by subst e; rw [hd] at hb; cases hb
end rp
theorem q_IndexFd (H0 : Heap) (F : FuncId) (us ws : List V) (f : rp.Fd → Bool) (xs : List rp.Fd) (nl : Bool) (t : Tag) (hx : (xs.length : Int) ≤ 9223372036854775807)
    (hF : ∀ a ∈ xs, QuietOn Try.prog H0 F (us ++ [aFd a] ++ ws) (.bool (f a))) :
    QuietOn Try.prog H0 249 [.sl (xs.map eFd) nl t, .func (.func F) us ws] (.int .i64 (idxF f xs)) := by
  intro G hG
  refine acall_body (rs := [.tmp 4]) Try.func249 rfl rfl Try.ntmps249 (by kernel_rfl) (Nat.le_of_ble_eq_true rfl) ?_
  refine aw_sr rfl ?_
  simp only [go_sem, reduceIte, Nat.reduceEqDiff, Nat.reduceAdd, Nat.reduceMul, Nat.reduceSub, Nat.reduceLeDiff, Nat.reduceLT, reduceCtorEq]
  refine aw_seq fun K1 hK1 => ?_
  refine aw_sr rfl ?_
  simp only [go_sem, reduceIte, Nat.reduceEqDiff, Nat.reduceAdd, Nat.reduceMul, Nat.reduceSub, Nat.reduceLeDiff, Nat.reduceLT, reduceCtorEq]
  refine aw_range xs.length (S := {H : Heap // H = G}) (fun _ _ => [(0, .sl (xs.map eFd) nl t), (1, .func (.func F) us ws)]) (fun _ s => s.1) (fun i _ => ∀ j (h : j < xs.length), j < i → f xs[j] = false) ⟨G, rfl⟩ hx ?_ (fun _ _ h => h) (fun j _ h => absurd h (by omega)) rfl (fun _ _ => rfl) ?_ ?_ (by decide)
  · simp only [go_sem, reduceIte, Nat.reduceEqDiff, Nat.reduceAdd, Nat.reduceMul, Nat.reduceSub, Nat.reduceLeDiff, Nat.reduceLT, reduceCtorEq, Int.natCast_zero]
  · intro i ⟨H, hH⟩ hi he
    subst hH
    refine aw_sr rfl ?_
    simp only [go_sem, reduceIte, Nat.reduceEqDiff, Nat.reduceAdd, Nat.reduceMul, Nat.reduceSub, Nat.reduceLeDiff, Nat.reduceLT, reduceCtorEq]
    refine aw_sr rfl ?_
    simp only [go_sem, reduceIte, Nat.reduceEqDiff, Nat.reduceAdd, Nat.reduceMul, Nat.reduceSub, Nat.reduceLeDiff, Nat.reduceLT, reduceCtorEq, getD_map hi, aFd, eFd]
    refine ⟨⟨by omega, by omega, wid_map (g := eFd) (fun _ => by simp [aFd, eFd]) _⟩, ?_⟩
    have hq := hF _ (List.getElem_mem hi)
    refine goA_on hq hG ?_
    simp only [go_sem, reduceIte, Nat.reduceEqDiff, Nat.reduceAdd, Nat.reduceMul, Nat.reduceSub, Nat.reduceLeDiff, Nat.reduceLT, reduceCtorEq]
    refine aw_if rfl (fun h => ?_) (fun h => ?_)
    · refine aw_sr rfl ?_
      simp only [go_sem, reduceIte, Nat.reduceEqDiff, Nat.reduceAdd, Nat.reduceMul, Nat.reduceSub, Nat.reduceLeDiff, Nat.reduceLT, reduceCtorEq]
      refine aw_ret ⟨trivial, _, rfl, ?_, rfl⟩
      rw [idxF_at hi h (fun j hj => he j (by omega) hj)]
      rfl
    · refine aw_skip ⟨⟨H, rfl⟩, fun j hj hlt => ?_, ?_, fun _ _ h => h⟩
      · by_cases e : j = i
        · subst e; exact h
        · exact he j hj (by omega)
      simp only [go_sem, reduceIte, Nat.reduceEqDiff, Nat.reduceAdd, Nat.reduceMul, Nat.reduceSub, Nat.reduceLeDiff, Nat.reduceLT, reduceCtorEq]
  · intro ⟨H, hH⟩ he
    subst hH
    refine hK1 _ _ ?_
    refine aw_sr rfl ?_
    simp only [go_sem, reduceIte, Nat.reduceEqDiff, Nat.reduceAdd, Nat.reduceMul, Nat.reduceSub, Nat.reduceLeDiff, Nat.reduceLT, reduceCtorEq]
    refine aw_ret ⟨trivial, _, rfl, ?_, rfl⟩
    rw [idxF_none (fun j hj => he j hj hj)]
    rfl
theorem q_ContainsFd (H0 : Heap) (F : FuncId) (us ws : List V) (f : rp.Fd → Bool) (xs : List rp.Fd) (nl : Bool) (t : Tag) (hx : (xs.length : Int) ≤ 9223372036854775807)
    (hF : ∀ a ∈ xs, QuietOn Try.prog H0 F (us ++ [aFd a] ++ ws) (.bool (f a))) :
    QuietOn Try.prog H0 210 [.sl (xs.map eFd) nl t, .func (.func F) us ws] (.bool (xs.any f)) := by
  intro G hG
  refine acall_body (rs := [.tmp 4]) Try.func210 rfl rfl Try.ntmps210 (by kernel_rfl) (Nat.le_of_ble_eq_true rfl) ?_
  refine aw_sr rfl ?_
  simp only [go_sem, reduceIte, Nat.reduceEqDiff, Nat.reduceAdd, Nat.reduceMul, Nat.reduceSub, Nat.reduceLeDiff, Nat.reduceLT, reduceCtorEq]
  refine aw_sr rfl ?_
  simp only [go_sem, reduceIte, Nat.reduceEqDiff, Nat.reduceAdd, Nat.reduceMul, Nat.reduceSub, Nat.reduceLeDiff, Nat.reduceLT, reduceCtorEq]
  refine goA_on (q_IndexFd H0 F us ws f xs nl t hx hF) hG ?_
  simp only [go_sem, reduceIte, Nat.reduceEqDiff, Nat.reduceAdd, Nat.reduceMul, Nat.reduceSub, Nat.reduceLeDiff, Nat.reduceLT, reduceCtorEq]
  refine aw_ret ⟨trivial, _, rfl, ?_, rfl⟩
  rw [← idxF_any]
  rfl
theorem q_move1 (f : rp.Fd) (b : Nat) (i : Int) : QuietOn Try.prog [(b, .vars [.int .i64 i])] 211 ([] ++ [aFd f] ++ [.ptr b 0]) (.bool (decide (f.1 = i))) := by
  refine QuietOn.weak fun G hG => ?_
  have hg : hget G b = some (.vars [.int .i64 i]) := hG _ _ (hget_self _ _ _)
  refine acall_body (rs := [.tmp 3]) Try.func211 rfl rfl Try.ntmps211 (by kernel_rfl) (Nat.le_of_ble_eq_true rfl) ?_
  refine aw_sr rfl ?_
  simp only [go_sem, reduceIte, Nat.reduceEqDiff, Nat.reduceAdd, Nat.reduceMul, Nat.reduceSub, Nat.reduceLeDiff, Nat.reduceLT, reduceCtorEq, aFd, eFd]
  intro b2 hb
  have hne : ¬ b2 = b := by intro e; subst e; rw [hg] at hb; cases hb
  refine aw_sr rfl ?_
  simp only [go_sem, reduceIte, Nat.reduceEqDiff, Nat.reduceAdd, Nat.reduceMul, Nat.reduceSub, Nat.reduceLeDiff, Nat.reduceLT, reduceCtorEq, hne, hg]
  exact aw_ret ⟨trivial, _, rfl, Vle.refl _, hsub_at hb⟩
theorem getD_cp {ts : List Typ} {i : Nat} (h : i < ts.length) : ((ts.map cpT).map eTyp).getD i [] = cTyp (cpT ts[i]) := by
  rw [getD_map (by rw [List.length_map]; exact h), List.getElem_map, eTyp_eq]
theorem isE_snoc {A : Type} (l : List A) (a : A) : (l ++ [a]).isEmpty = false := by cases l <;> rfl
theorem q_move (p q : Prgm) (op : o29 p) (oq : o29 q) (a : Acr) (oa : o42 a) :
    Quiet Try.prog 122 [.agg (cPrg p), .agg (cPrg q), .agg (eAcr a)] (mvV (moveF p q a)) := by
  have hp4 : o23 p.2.2.2.1 := op.2.2.2.1
  have hq4 : o23 q.2.2.2.1 := oq.2.2.2.1
  have hqA : o27 q.2.2.2.2.2.2.2 := oq.2.2.2.2.2.2.2
  have hal : a.2.1.1.length ≤ 1048576 := oa.2.1.2.1
  have hA := q_Actor q a.1 hqA
  have hE : moveF p q a = moveF p q a := rfl
  conv at hE => lhs; unfold moveF
  refine Quiet.weak fun G => ?_
  refine acall_body (rs := [.cell 6 291, .tmp 7]) Try.func122 rfl rfl Try.ntmps122 (by kernel_rfl) (Nat.le_of_ble_eq_true rfl) ?_
  refine aw_sr rfl ?_  -- r0 @renew.go:48
  simp only [go_sem, reduceIte, Nat.reduceEqDiff, Nat.reduceAdd, Nat.reduceMul, Nat.reduceSub, Nat.reduceLeDiff, Nat.reduceLT, reduceCtorEq]
  intro b3 hb3 b4 hb4 b5 hb5 b6 hb6
  obtain ⟨_, c1⟩ := fresh_cons hb6
  obtain ⟨_, c2⟩ := fresh_cons c1
  obtain ⟨_, c6⟩ := fresh_cons c2
  refine aw_box4 hb3 hb4 hb5 hb6 fun B1 hs1 h3 h4 h5 h6 => ?_
  have hsB := hs1
  clear c1 c2
  simp only [e29, e42] at h3 h4 h5
  simp only [e29] at hA
  refine aw_sr rfl ?_  -- r1 @renew.go:49
  simp only [go_sem, reduceIte, Nat.reduceEqDiff, Nat.reduceAdd, Nat.reduceMul, Nat.reduceSub, Nat.reduceLeDiff, Nat.reduceLT, reduceCtorEq, h4, h5]
  cases hac : acrF q a.1 with
  | none =>
    rw [hac] at hA hE
    simp only [actV, actZ] at hA
    simp only at hE
    refine goA_q hA ?_
    simp only [go_sem, reduceIte, Nat.reduceEqDiff, Nat.reduceAdd, Nat.reduceMul, Nat.reduceSub, Nat.reduceLeDiff, Nat.reduceLT, reduceCtorEq, h4, h5]
    intro b8 hb8
    refine aw_box1 hb8 fun B2 hs2 h8 => ?_
    replace h6 := hs2 _ _ h6
    replace hsB := sub_trans hsB hs2
    refine aw_seq fun K1 hK1 => ?_
    refine aw_sr rfl ?_  -- r2 @renew.go:50
    simp only [go_sem, reduceIte, Nat.reduceEqDiff, Nat.reduceAdd, Nat.reduceMul, Nat.reduceSub, Nat.reduceLeDiff, Nat.reduceLT, reduceCtorEq]
    refine aw_if rfl (fun h => ?_) (fun h => by cases h)
    refine aw_sr rfl ?_  -- r3 @renew.go:51
    simp only [go_sem, reduceIte, Nat.reduceEqDiff, Nat.reduceAdd, Nat.reduceMul, Nat.reduceSub, Nat.reduceLeDiff, Nat.reduceLT, reduceCtorEq, h6]
    refine aw_ret ⟨trivial, ?_⟩
    simp only [go_sem, reduceIte, Nat.reduceEqDiff, Nat.reduceAdd, Nat.reduceMul, Nat.reduceSub, Nat.reduceLeDiff, Nat.reduceLT, reduceCtorEq, resL, resOf, hget_hset_self h6]
    refine ⟨_, rfl, ?_, sub_hset_fresh c6 hsB⟩
    rw [← hE]
    exact Vle.tupL (.cons (Vle.aggL (by repeat (first | exact .nil | refine .cons (Vle.refl _) ?_ | refine .cons Vle.untag ?_ | refine .cons (Vle.aggL ?_) ?_ | refine .cons (Vle.slE ?_) ?_))) (.cons (Vle.refl _) .nil))
  | some b =>
    rw [hac] at hA hE
    simp only [actV, actC] at hA
    simp only at hE
    have hbm : b ∈ q.2.2.2.2.2.2.2.1 := List.mem_of_find?_eq_some hac
    have ob := hqA.2.2 _ hbm
    have hbl : b.2.1.1.length ≤ 1048576 := ob.2.1.2.1
    have hbt : b.2.2.1.1.length ≤ 1048576 := ob.2.2.1.len
    have hat : a.2.2.1.1.length ≤ 1048576 := oa.2.2.1.len
    refine goA_q hA ?_
    simp only [go_sem, reduceIte, Nat.reduceEqDiff, Nat.reduceAdd, Nat.reduceMul, Nat.reduceSub, Nat.reduceLeDiff, Nat.reduceLT, reduceCtorEq, h4, h5]
    intro b8 hb8
    refine aw_box1 hb8 fun B2 hs2 h8 => ?_
    replace h3 := hs2 _ _ h3
    replace h4 := hs2 _ _ h4
    replace h5 := hs2 _ _ h5
    replace h6 := hs2 _ _ h6
    replace hsB := sub_trans hsB hs2
    refine aw_seq fun K1 hK1 => ?_
    refine aw_sr rfl ?_  -- r2 @renew.go:50
    simp only [go_sem, reduceIte, Nat.reduceEqDiff, Nat.reduceAdd, Nat.reduceMul, Nat.reduceSub, Nat.reduceLeDiff, Nat.reduceLT, reduceCtorEq]
    refine aw_if rfl (fun h => by cases h) (fun h => ?_)
    refine aw_skip (hK1 _ _ ?_)
    refine aw_seq fun K2 hK2 => ?_
    refine aw_sr rfl ?_  -- r4 @renew.go:53
    simp only [go_sem, reduceIte, Nat.reduceEqDiff, Nat.reduceAdd, Nat.reduceMul, Nat.reduceSub, Nat.reduceLeDiff, Nat.reduceLT, reduceCtorEq, h5, h8, List.length_map]
    by_cases hc : a.2.1.1.length ≠ a.2.2.1.1.length ∨ b.2.1.1.length ≠ b.2.2.1.1.length
    · rw [if_pos hc] at hE
      refine aw_if rfl (fun h => ?_) (fun h => ?_)
      · refine aw_sr rfl ?_  -- r5 @renew.go:54
        simp only [go_sem, reduceIte, Nat.reduceEqDiff, Nat.reduceAdd, Nat.reduceMul, Nat.reduceSub, Nat.reduceLeDiff, Nat.reduceLT, reduceCtorEq, h6]
        refine aw_ret ⟨trivial, ?_⟩
        simp only [go_sem, reduceIte, Nat.reduceEqDiff, Nat.reduceAdd, Nat.reduceMul, Nat.reduceSub, Nat.reduceLeDiff, Nat.reduceLT, reduceCtorEq, resL, resOf, hget_hset_self h6]
        refine ⟨_, rfl, ?_, sub_hset_fresh c6 hsB⟩
        rw [← hE]
        exact Vle.tupL (.cons (Vle.aggL (by repeat (first | exact .nil | refine .cons (Vle.refl _) ?_ | refine .cons Vle.untag ?_ | refine .cons (Vle.aggL ?_) ?_ | refine .cons (Vle.slE ?_) ?_))) (.cons (Vle.refl _) .nil))
      · exfalso
        revert h
        by_cases h1 : a.2.1.1.length = a.2.2.1.1.length
        · have h2 := hc.resolve_left (fun h => h h1)
          simp [h1, h2, Int.natCast_inj]
        · simp [h1, Int.natCast_inj]
    rw [if_neg hc] at hE
    have hc1 : a.2.1.1.length = a.2.2.1.1.length := Classical.byContradiction fun h => hc (.inl h)
    have hc2 : b.2.1.1.length = b.2.2.1.1.length := Classical.byContradiction fun h => hc (.inr h)
    refine aw_if rfl (fun h => ?_) (fun h => ?_)
    · exfalso
      revert h
      simp [hc1, hc2]
    refine aw_skip (hK2 _ _ ?_)
    clear hc
    have hS := q_SameS hp4 hq4 oa.2.2.2.1.1 (b := cpT b.2.2.2.1)
    rw [sameF_cp _ _ _ _ _ b.2.2.2.1 (Nat.le_refl _), cCp] at hS
    simp only [e29] at hS
    refine aw_seq fun K3 hK3 => ?_
    refine aw_sr rfl ?_  -- r6 @renew.go:56
    simp only [go_sem, reduceIte, Nat.reduceEqDiff, Nat.reduceAdd, Nat.reduceMul, Nat.reduceSub, Nat.reduceLeDiff, Nat.reduceLT, reduceCtorEq, h3, h4, h5, h8]
    refine goA_q hS ?_
    simp only [go_sem, reduceIte, Nat.reduceEqDiff, Nat.reduceAdd, Nat.reduceMul, Nat.reduceSub, Nat.reduceLeDiff, Nat.reduceLT, reduceCtorEq, h3, h4, h5, h8]
    cases hs : sameF (big p q) [] [] a.2.2.2.1 b.2.2.2.1 with
    | false =>
      rw [if_neg (by rw [hs]; simp)] at hE
      refine aw_if rfl (fun h => ?_) (fun h => by cases h)
      refine aw_sr rfl ?_  -- r7 @renew.go:57
      simp only [go_sem, reduceIte, Nat.reduceEqDiff, Nat.reduceAdd, Nat.reduceMul, Nat.reduceSub, Nat.reduceLeDiff, Nat.reduceLT, reduceCtorEq, h6]
      refine aw_ret ⟨trivial, ?_⟩
      simp only [go_sem, reduceIte, Nat.reduceEqDiff, Nat.reduceAdd, Nat.reduceMul, Nat.reduceSub, Nat.reduceLeDiff, Nat.reduceLT, reduceCtorEq, resL, resOf, hget_hset_self h6]
      refine ⟨_, rfl, ?_, sub_hset_fresh c6 hsB⟩
      rw [← hE]
      exact Vle.tupL (.cons (Vle.aggL (by repeat (first | exact .nil | refine .cons (Vle.refl _) ?_ | refine .cons Vle.untag ?_ | refine .cons (Vle.aggL ?_) ?_ | refine .cons (Vle.slE ?_) ?_))) (.cons (Vle.refl _) .nil))
    | true =>
    rw [if_pos hs] at hE
    refine aw_if rfl (fun h => by cases h) (fun h => ?_)
    refine aw_skip (hK3 _ _ ?_)
    refine aw_sr rfl ?_  -- r8 @renew.go:59
    simp only [go_sem, reduceIte, Nat.reduceEqDiff, Nat.reduceAdd, Nat.reduceMul, Nat.reduceSub, Nat.reduceLeDiff, Nat.reduceLT, reduceCtorEq, h5]
    intro b10 hb10
    have c10 : hget G b10 = none := none_sub hsB hb10
    have n3 : ¬ b3 = b10 := ne_fresh h3 hb10
    have n4 : ¬ b4 = b10 := ne_fresh h4 hb10
    have n5 : ¬ b5 = b10 := ne_fresh h5 hb10
    have n6 : ¬ b6 = b10 := ne_fresh h6 hb10
    have n8 : ¬ b8 = b10 := ne_fresh h8 hb10
    refine aw_box1 hb10 fun B3 hs3 h10 => ?_
    replace h3 := hs3 _ _ h3
    replace h4 := hs3 _ _ h4
    replace h5 := hs3 _ _ h5
    replace h6 := hs3 _ _ h6
    replace h8 := hs3 _ _ h8
    replace hsB := sub_trans hsB hs3
    have hL : (b.2.1.1.zip b.2.2.1.1).length = b.2.1.1.length := by simp [hc2]
    generalize hLd : b.2.1.1.zip b.2.2.1.1 = L at hE hL
    have hLi : ∀ i (h : i < L.length), L[i] = (b.2.1.1[i]'(by omega), b.2.2.1.1[i]'(by omega)) := by
      intro i h; subst hLd; rw [List.getElem_zip]
    refine aw_seq fun K4 hK4 => ?_
    refine aw_sr rfl ?_  -- r9 @renew.go:60
    simp only [go_sem, reduceIte, Nat.reduceEqDiff, Nat.reduceAdd, Nat.reduceMul, Nat.reduceSub, Nat.reduceLeDiff, Nat.reduceLT, reduceCtorEq, h8]
    refine aw_range b.2.1.1.length (S := Tag × Heap) (fun i _ => [(3, .ptr b3 0), (4, .ptr b4 0), (5, .ptr b5 0), (6, .ptr b6 0), (8, .ptr b8 0), (10, .ptr b10 0), (59, .sl (b.2.1.1.map eNm) b.2.1.2 .no)]) (fun _ s => s.2)
      (fun i s => Rm G s.2 5 s.1 ∧ Sub G s.2 ∧ KeepV b10 B3 s.2 ∧ (∀ j (hj : j < L.length), j < i → (fldG p q a L[j]).2 = 0) ∧ hget s.2 b10 = some (.vars [.str a.1, .int .i64 a.2.1.1.length, .sl (((L.take i).map fun x => (fldG p q a x).1).map eFd) (L.take i).isEmpty s.1, .sl [] true .full])) (.full, B3) (by omega) ?_ (fun _ _ h => h)
      ⟨Rm.start _ _ _, hsB, KeepV.refl _ _, fun j hj h => absurd h (by omega), by simpa using h10⟩ rfl (fun _ _ => rfl) ?_ ?_ (by decide)
    · simp only [go_sem, reduceIte, Nat.reduceEqDiff, Nat.reduceAdd, Nat.reduceMul, Nat.reduceSub, Nat.reduceLeDiff, Nat.reduceLT, reduceCtorEq, Int.natCast_zero]
    · intro i ⟨t, H⟩ hi1 ⟨hr, hs, hk, he, j10⟩
      simp only at hr hs hk he j10 ⊢
      have hi : i < L.length := by omega
      have j3 := hk _ _ h3 n3
      have j4 := hk _ _ h4 n4
      have j5 := hk _ _ h5 n5
      have j6 := hk _ _ h6 n6
      have j8 := hk _ _ h8 n8
      have hi2 : i < b.2.2.1.1.length := by omega
      have htk : L.take (i + 1) = L.take i ++ [L[i]] := List.take_succ_eq_append_getElem hi
      have hq := q_field p q hp4 hq4 a b.2.1.1[i] b.2.2.1.1[i] oa hc1 (ob.2.2.1.2.2 _ (List.getElem_mem hi2))
      have hfE : fieldF p q a b.2.1.1[i] b.2.2.1.1[i] = fldG p q a L[i] := by rw [hLi i hi]; rfl
      rw [hfE] at hq
      have hat_ := errF_at (g := fldG p q a) hi he
      generalize hr0 : fldG p q a L[i] = r at hq hat_
      simp only [fdV, eFd, e29, e42, cCp] at hq
      refine aw_sr rfl ?_  -- r11 @renew.go:60
      simp only [go_sem, reduceIte, Nat.reduceEqDiff, Nat.reduceAdd, Nat.reduceMul, Nat.reduceSub, Nat.reduceLeDiff, Nat.reduceLT, reduceCtorEq, getD_map hi1, eNm]
      refine ⟨⟨by omega, by omega, wid_eNm' _⟩, ?_⟩
      refine aw_srd [(0,true),(1,true),(2,true),(3,true),(4,true),(5,true),(6,true),(7,true),(8,true),(9,true),(10,true),(11,true),(12,true),(13,false),(14,false),(15,true)] mixed rfl (by kernel_rfl) ?_  -- r12 @renew.go:61
      simp only [go_sem, reduceIte, Nat.reduceEqDiff, Nat.reduceAdd, Nat.reduceMul, Nat.reduceSub, Nat.reduceLeDiff, Nat.reduceLT, reduceCtorEq, j3, j4, j5, j8, getD_cp hi2, cCp]
      refine ⟨⟨by omega, by omega, wid_eTyp _⟩, ?_⟩
      refine goQ_by hq ?_
      simp only [go_sem, reduceIte, Nat.reduceEqDiff, Nat.reduceAdd, Nat.reduceMul, Nat.reduceSub, Nat.reduceLeDiff, Nat.reduceLT, reduceCtorEq, j3, j4, j5, j8]
      intro b13 hb13
      refine aw_box1 hb13 fun B4 hs4 h13 => ?_
      replace hr := hr.sub hs4
      replace hs := sub_trans hs hs4
      replace hk := hk.sub hs4
      replace j6 := hs4 _ _ j6
      replace j10 := hs4 _ _ j10
      refine aw_seq fun K5 hK5 => ?_
      refine aw_sr rfl ?_  -- r13 @renew.go:62
      simp only [go_sem, reduceIte, Nat.reduceEqDiff, Nat.reduceAdd, Nat.reduceMul, Nat.reduceSub, Nat.reduceLeDiff, Nat.reduceLT, reduceCtorEq]
      refine aw_if rfl (fun h => ?_) (fun h => ?_)
      · have hz : ¬ r.2 = 0 := by simpa using h
        rw [hat_ hz, if_neg hz] at hE
        refine aw_sr rfl ?_  -- r14 @renew.go:63
        simp only [go_sem, reduceIte, Nat.reduceEqDiff, Nat.reduceAdd, Nat.reduceMul, Nat.reduceSub, Nat.reduceLeDiff, Nat.reduceLT, reduceCtorEq, j6]
        refine aw_ret ⟨trivial, ?_⟩
        simp only [go_sem, reduceIte, Nat.reduceEqDiff, Nat.reduceAdd, Nat.reduceMul, Nat.reduceSub, Nat.reduceLeDiff, Nat.reduceLT, reduceCtorEq, resL, resOf, hget_hset_self j6]
        refine ⟨_, rfl, ?_, sub_hset_fresh c6 hs⟩
        rw [← hE]
        exact Vle.tupL (.cons (Vle.aggL (by repeat (first | exact .nil | refine .cons (Vle.refl _) ?_ | refine .cons Vle.untag ?_ | refine .cons (Vle.aggL ?_) ?_ | refine .cons (Vle.slE ?_) ?_))) (.cons (Vle.refl _) .nil))
      have hz : r.2 = 0 := by simpa using h
      refine aw_skip (hK5 _ _ ?_)
      refine aw_rg rfl ?_  -- r15 @renew.go:65
      simp only [go_sem, reduceIte, Nat.reduceEqDiff, Nat.reduceAdd, Nat.reduceMul, Nat.reduceSub, Nat.reduceLeDiff, Nat.reduceLT, reduceCtorEq, j10, h13]
      refine goP_rm (G := G) hr hs ⟨rfl, rfl, by decide, wid_map (g := eFd) (fun _ => rfl) _, wid_one rfl, by simp [sca, scalarV], by simp only [List.length_map, List.length_take, List.length_cons, List.length_nil]; omega, by simp only [List.length_map, List.length_take, List.length_cons, List.length_nil]; omega⟩ fun t8 H8 hr8 hs8 hg8 => ?_
      have k10 := hg8.vars j10
      simp only [go_sem, reduceIte, Nat.reduceEqDiff, Nat.reduceAdd, Nat.reduceMul, Nat.reduceSub, Nat.reduceLeDiff, Nat.reduceLT, reduceCtorEq, k10]
      generalize hH9 : hset H8 b10 _ = H9
      obtain ⟨m10, hk9, hG, hR⟩ := hset_facts hH9 k10
      refine ⟨(t8, H9), ⟨hR _ _ _ (fun _ _ q => by cases q) hr8, hG _ c10 hs8, by rw [← hH9]; exact (hk.grow hg8).set, fun j hj hlt => ?_, ?_⟩, ?_, sub_rfl⟩
      · by_cases e : j = i
        · subst e; rw [hr0]; exact hz
        · exact he j hj (by omega)
      · simp only
        rw [htk, isE_snoc, List.map_append, List.map_append]
        simp only [List.map_cons, List.map_nil, hr0, eFd]
        simpa using m10
      · simp only [go_sem, reduceIte, Nat.reduceEqDiff, Nat.reduceAdd, Nat.reduceMul, Nat.reduceSub, Nat.reduceLeDiff, Nat.reduceLT, reduceCtorEq]
    intro ⟨t, H⟩ ⟨hr, hs, hk, he, j10⟩
    simp only at hr hs hk he j10 ⊢
    rw [← hL] at j10 he
    rw [List.take_length] at j10
    have he0 : errF (fldG p q a) L = 0 := errF_none fun j hj => he j hj hj
    rw [if_pos he0] at hE
    have hfl : fldL p q a b = L.map fun x => (fldG p q a x).1 := by rw [← hLd]; rfl
    rw [hfl] at hE
    generalize hF : (L.map fun x => (fldG p q a x).1) = F at hE j10
    have hFl : F.length = L.length := by rw [← hF, List.length_map]
    have hFe : L.isEmpty = F.isEmpty := by rw [← hF, List.isEmpty_map]
    rw [hFe] at j10
    have j5 := hk _ _ h5 n5
    have j6 := hk _ _ h6 n6
    refine hK4 _ _ ?_
    refine aw_seq fun K6 hK6 => ?_
    refine aw_sr rfl ?_  -- r17 @renew.go:67
    simp only [go_sem, reduceIte, Nat.reduceEqDiff, Nat.reduceAdd, Nat.reduceMul, Nat.reduceSub, Nat.reduceLeDiff, Nat.reduceLT, reduceCtorEq, j5]
    refine aw_range a.2.1.1.length (S := Tag × Heap) (fun i _ => [(6, .ptr b6 0), (10, .ptr b10 0)]) (fun _ s => s.2)
      (fun i s => Rm G s.2 1 s.1 ∧ Sub G s.2 ∧ KeepV b10 B3 s.2 ∧ hget s.2 b10 = some (.vars [.str a.1, .int .i64 a.2.1.1.length, .sl (F.map eFd) F.isEmpty t, .sl ((lostF i F).map mk.eN) (lostF i F).isEmpty s.1])) (.full, H) (by omega) ?_ (fun _ _ h => h)
      ⟨Rm.start _ _ _, hs, hk, j10⟩ rfl (fun _ _ => rfl) ?_ ?_ (by decide)
    · simp only [go_sem, reduceIte, Nat.reduceEqDiff, Nat.reduceAdd, Nat.reduceMul, Nat.reduceSub, Nat.reduceLeDiff, Nat.reduceLT, reduceCtorEq, Int.natCast_zero]
    · intro i ⟨t2, H2⟩ hi ⟨hr2, hs2, hk2, l10⟩
      simp only at hr2 hs2 hk2 l10 ⊢
      have hll := lostF_len i F
      refine aw_sr rfl ?_  -- r19 @renew.go:67
      simp only [go_sem, reduceIte, Nat.reduceEqDiff, Nat.reduceAdd, Nat.reduceMul, Nat.reduceSub, Nat.reduceLeDiff, Nat.reduceLT, reduceCtorEq]
      intro b15 hb15
      refine aw_box1 hb15 fun B4 hs4 h15 => ?_
      replace hr2 := hr2.sub hs4
      replace hs2 := sub_trans hs2 hs4
      replace hk2 := hk2.sub hs4
      replace l10 := hs4 _ _ l10
      have hq := q_ContainsFd [(b15, .vars [.int .i64 i])] 211 [] [.ptr b15 0] (fun f => decide (f.1 = (i : Int))) F F.isEmpty t (by omega) fun f _ => q_move1 f b15 i
      refine aw_sr rfl ?_  -- r20 @renew.go:68
      simp only [go_sem, reduceIte, Nat.reduceEqDiff, Nat.reduceAdd, Nat.reduceMul, Nat.reduceSub, Nat.reduceLeDiff, Nat.reduceLT, reduceCtorEq, l10, h15]
      refine goA_on hq (sub_one h15) ?_
      simp only [go_sem, reduceIte, Nat.reduceEqDiff, Nat.reduceAdd, Nat.reduceMul, Nat.reduceSub, Nat.reduceLeDiff, Nat.reduceLT, reduceCtorEq, l10, h15]
      have hnx := lostF_next i F
      refine aw_if rfl (fun h => ?_) (fun h => ?_)
      · have hz : F.any (fun f => decide (f.1 = (i : Int))) = false := by simpa using h
        rw [if_neg (by rw [hz]; simp)] at hnx
        refine aw_rg rfl ?_  -- r21 @renew.go:69
        simp only [go_sem, reduceIte, Nat.reduceEqDiff, Nat.reduceAdd, Nat.reduceMul, Nat.reduceSub, Nat.reduceLeDiff, Nat.reduceLT, reduceCtorEq, l10, h15]
        refine goP_rm (G := G) hr2 hs2 ⟨rfl, rfl, by decide, mk.wid_eN _, wid_one rfl, by simp [sca, scalarV], by simp only [List.length_map, List.length_cons, List.length_nil]; omega, by simp only [List.length_map, List.length_cons, List.length_nil]; omega⟩ fun t8 H8 hr8 hs8 hg8 => ?_
        have k10 := hg8.vars l10
        simp only [go_sem, reduceIte, Nat.reduceEqDiff, Nat.reduceAdd, Nat.reduceMul, Nat.reduceSub, Nat.reduceLeDiff, Nat.reduceLT, reduceCtorEq, k10]
        generalize hH9 : hset H8 b10 _ = H9
        obtain ⟨m10, hk9, hG, hR⟩ := hset_facts hH9 k10
        refine ⟨(t8, H9), ⟨hR _ _ _ (fun _ _ q => by cases q) hr8, hG _ c10 hs8, by rw [← hH9]; exact (hk2.grow hg8).set, ?_⟩, ?_, sub_rfl⟩
        · simp only
          rw [hnx, isE_snoc, List.map_append]
          simp only [List.map_cons, List.map_nil, mk.eN]
          simpa using m10
        · simp only [go_sem, reduceIte, Nat.reduceEqDiff, Nat.reduceAdd, Nat.reduceMul, Nat.reduceSub, Nat.reduceLeDiff, Nat.reduceLT, reduceCtorEq]
      · have hz : F.any (fun f => decide (f.1 = (i : Int))) = true := by simpa using h
        rw [if_pos hz, List.append_nil] at hnx
        refine aw_skip ⟨(t2, B4), ⟨hr2, hs2, hk2, by simp only; rw [hnx]; exact l10⟩, ?_, sub_rfl⟩
        simp only [go_sem, reduceIte, Nat.reduceEqDiff, Nat.reduceAdd, Nat.reduceMul, Nat.reduceSub, Nat.reduceLeDiff, Nat.reduceLT, reduceCtorEq]
    intro ⟨t2, H2⟩ ⟨hr2, hs2, hk2, l10⟩
    simp only at hr2 hs2 hk2 l10 ⊢
    have l6 := hk2 _ _ h6 n6
    refine hK6 _ _ ?_
    refine aw_sr rfl ?_  -- r23 @renew.go:72
    simp only [go_sem, reduceIte, Nat.reduceEqDiff, Nat.reduceAdd, Nat.reduceMul, Nat.reduceSub, Nat.reduceLeDiff, Nat.reduceLT, reduceCtorEq, l6, l10]
    refine aw_ret ⟨trivial, ?_⟩
    simp only [go_sem, reduceIte, Nat.reduceEqDiff, Nat.reduceAdd, Nat.reduceMul, Nat.reduceSub, Nat.reduceLeDiff, Nat.reduceLT, reduceCtorEq, resL, resOf, hget_hset_self l6]
    refine ⟨_, rfl, ?_, sub_hset_fresh c6 hs2⟩
    rw [← hE]
    exact Vle.tupL (.cons (Vle.aggL (by repeat (first | exact .nil | refine .cons (Vle.refl _) ?_ | refine .cons Vle.untag ?_ | refine .cons (Vle.aggL ?_) ?_ | refine .cons (Vle.slE ?_) ?_))) (.cons (Vle.refl _) .nil))
end Go.Proofs.Ytclmcpbanaojfaa

/- The way from a program to another one: the program's, and the reference's. No conditions but sizes. -/
set_option linter.unusedSimpArgs false
set_option linter.unusedVariables false
namespace Go.Proofs.Ytclmcpbanaojfaa
open Go.Proofs.YtclmcpbanaojfaaV
open rp
open sm
set_option maxHeartbeats 4000000
set_option maxRecDepth 100000
theorem wid_eMv' (l : List rp.Mv) : wid 4 (l.map eMv) := wid_map (g := eMv) (fun _ => rfl) _
theorem sca_eMv (m : rp.Mv) : sca [eMv m] := by simp [sca, scalarV, eMv]
theorem q_Plan (p q : Prgm) (op : o29 p) (oq : o29 q) :
    Quiet Try.prog 71 [.agg (cPrg p), .agg (cPrg q)] (wayV (wayF p q)) := by
  have hpA : o27 p.2.2.2.2.2.2.2 := op.2.2.2.2.2.2.2
  have hpl : p.2.2.2.2.2.2.2.1.length ≤ 1048576 := hpA.2.1
  have hE : wayF p q = wayF p q := rfl
  conv at hE => lhs; unfold wayF
  have hMv := fun a ha => q_move p q op oq a (hpA.2.2 a ha)
  refine Quiet.weak fun G => ?_
  refine acall_body (rs := [.cell 4 161, .tmp 5]) Try.func71 rfl rfl Try.ntmps71 (by kernel_rfl) (Nat.le_of_ble_eq_true rfl) ?_
  refine aw_sr rfl ?_  -- r0 @renew.go:76
  simp only [go_sem, reduceIte, Nat.reduceEqDiff, Nat.reduceAdd, Nat.reduceMul, Nat.reduceSub, Nat.reduceLeDiff, Nat.reduceLT, reduceCtorEq]
  intro b2 hb2 b3 hb3 b4 hb4
  obtain ⟨_, c1⟩ := fresh_cons hb4
  obtain ⟨_, c4⟩ := fresh_cons c1
  refine aw_box3 hb2 hb3 hb4 fun B1 hs1 h2 h3 h4 _ _ _ _ _ _ => ?_
  have hsB := hs1
  clear c1
  simp only [e29] at h2 h3 hMv
  refine aw_sr rfl ?_  -- r1 @renew.go:77
  simp only [go_sem, reduceIte, Nat.reduceEqDiff, Nat.reduceAdd, Nat.reduceMul, Nat.reduceSub, Nat.reduceLeDiff, Nat.reduceLT, reduceCtorEq]
  intro b6 hb6
  have c6 : hget G b6 = none := none_sub hsB hb6
  have n2 : ¬ b2 = b6 := ne_fresh h2 hb6
  have n3 : ¬ b3 = b6 := ne_fresh h3 hb6
  have n4 : ¬ b4 = b6 := ne_fresh h4 hb6
  refine aw_box1 hb6 fun B2 hs2 h6 => ?_
  replace h2 := hs2 _ _ h2
  replace h3 := hs2 _ _ h3
  replace h4 := hs2 _ _ h4
  replace hsB := sub_trans hsB hs2
  refine aw_seq fun K1 hK1 => ?_
  refine aw_sr rfl ?_  -- r2 @renew.go:78
  simp only [go_sem, reduceIte, Nat.reduceEqDiff, Nat.reduceAdd, Nat.reduceMul, Nat.reduceSub, Nat.reduceLeDiff, Nat.reduceLT, reduceCtorEq, h2]
  generalize hAd : p.2.2.2.2.2.2.2.1 = As at hE hpl hMv
  refine aw_range As.length (S := Tag × Heap) (fun i _ => [(2, .ptr b2 0), (3, .ptr b3 0), (4, .ptr b4 0), (6, .ptr b6 0), (12, .sl (As.map eAcr) p.2.2.2.2.2.2.2.2 .no)]) (fun _ s => s.2)
    (fun i s => Rm G s.2 4 s.1 ∧ Sub G s.2 ∧ KeepV b6 B2 s.2 ∧ (∀ j (hj : j < As.length), j < i → (moveF p q As[j]).2 = 0) ∧ hget s.2 b6 = some (.vars [.sl (((As.take i).map fun x => (moveF p q x).1).map eMv) (As.take i).isEmpty s.1])) (.full, B2) (by omega) ?_ (fun _ _ h => h)
    ⟨Rm.start _ _ _, hsB, KeepV.refl _ _, fun j hj h => absurd h (by omega), h6⟩ rfl (fun _ _ => rfl) ?_ ?_ (by decide)
  · simp only [go_sem, reduceIte, Nat.reduceEqDiff, Nat.reduceAdd, Nat.reduceMul, Nat.reduceSub, Nat.reduceLeDiff, Nat.reduceLT, reduceCtorEq, Int.natCast_zero]
  · intro i ⟨t, H⟩ hi ⟨hr, hs, hk, he, j6⟩
    simp only at hr hs hk he j6 ⊢
    have j2 := hk _ _ h2 n2
    have j3 := hk _ _ h3 n3
    have j4 := hk _ _ h4 n4
    have htk : As.take (i + 1) = As.take i ++ [As[i]] := List.take_succ_eq_append_getElem hi
    have hq := hMv _ (List.getElem_mem hi)
    have hat_ := errF_at (g := moveF p q) hi he
    refine aw_sr rfl ?_  -- r4 @renew.go:78
    simp only [go_sem, reduceIte, Nat.reduceEqDiff, Nat.reduceAdd, Nat.reduceMul, Nat.reduceSub, Nat.reduceLeDiff, Nat.reduceLT, reduceCtorEq, getD_map hi, e42]
    refine ⟨⟨by omega, by omega, wid_eAcr _⟩, ?_⟩
    generalize hr0 : moveF p q As[i] = r at hq hat_
    simp only [mvV, eMv, e42] at hq
    intro b8 hb8
    refine aw_box1 hb8 fun B3 hs3 h8 => ?_
    replace hr := hr.sub hs3
    replace hs := sub_trans hs hs3
    replace hk := hk.sub hs3
    replace j2 := hs3 _ _ j2
    replace j3 := hs3 _ _ j3
    replace j6 := hs3 _ _ j6
    refine aw_sr rfl ?_  -- r5 @renew.go:79
    simp only [go_sem, reduceIte, Nat.reduceEqDiff, Nat.reduceAdd, Nat.reduceMul, Nat.reduceSub, Nat.reduceLeDiff, Nat.reduceLT, reduceCtorEq, j2, j3, h8, hAd]
    refine goA_q hq ?_
    simp only [go_sem, reduceIte, Nat.reduceEqDiff, Nat.reduceAdd, Nat.reduceMul, Nat.reduceSub, Nat.reduceLeDiff, Nat.reduceLT, reduceCtorEq, j2, j3, h8]
    intro b9 hb9
    refine aw_box1 hb9 fun B4 hs4 h9 => ?_
    replace hr := hr.sub hs4
    replace hs := sub_trans hs hs4
    replace hk := hk.sub hs4
    replace j6 := hs4 _ _ j6
    have j4 := hk _ _ h4 n4
    refine aw_seq fun K2 hK2 => ?_
    refine aw_sr rfl ?_  -- r6 @renew.go:80
    simp only [go_sem, reduceIte, Nat.reduceEqDiff, Nat.reduceAdd, Nat.reduceMul, Nat.reduceSub, Nat.reduceLeDiff, Nat.reduceLT, reduceCtorEq]
    refine aw_if rfl (fun h => ?_) (fun h => ?_)
    · have hz : ¬ r.2 = 0 := by simpa using h
      rw [hat_ hz, if_neg hz] at hE
      refine aw_sr rfl ?_  -- r7 @renew.go:81
      simp only [go_sem, reduceIte, Nat.reduceEqDiff, Nat.reduceAdd, Nat.reduceMul, Nat.reduceSub, Nat.reduceLeDiff, Nat.reduceLT, reduceCtorEq, j4]
      refine aw_ret ⟨trivial, ?_⟩
      simp only [go_sem, reduceIte, Nat.reduceEqDiff, Nat.reduceAdd, Nat.reduceMul, Nat.reduceSub, Nat.reduceLeDiff, Nat.reduceLT, reduceCtorEq, resL, resOf, hget_hset_self j4]
      refine ⟨_, rfl, ?_, sub_hset_fresh c4 hs⟩
      rw [← hE]
      exact Vle.tupL (.cons (Vle.aggL (by repeat (first | exact .nil | refine .cons (Vle.refl _) ?_ | refine .cons Vle.untag ?_ | refine .cons (Vle.aggL ?_) ?_ | refine .cons (Vle.slE ?_) ?_))) (.cons (Vle.refl _) .nil))
    have hz : r.2 = 0 := by simpa using h
    refine aw_skip (hK2 _ _ ?_)
    refine aw_rg rfl ?_  -- r8 @renew.go:83
    simp only [go_sem, reduceIte, Nat.reduceEqDiff, Nat.reduceAdd, Nat.reduceMul, Nat.reduceSub, Nat.reduceLeDiff, Nat.reduceLT, reduceCtorEq, j6, h9]
    refine goP_rm (G := G) hr hs ⟨rfl, rfl, by decide, wid_eMv' _, wid_one rfl, by simp [sca, scalarV], by simp only [List.length_map, List.length_take, List.length_cons, List.length_nil]; omega, by simp only [List.length_map, List.length_take, List.length_cons, List.length_nil]; omega⟩ fun t8 H8 hr8 hs8 hg8 => ?_
    have k6 := hg8.vars j6
    simp only [go_sem, reduceIte, Nat.reduceEqDiff, Nat.reduceAdd, Nat.reduceMul, Nat.reduceSub, Nat.reduceLeDiff, Nat.reduceLT, reduceCtorEq, k6]
    generalize hH9 : hset H8 b6 _ = H9
    obtain ⟨m6, hk9, hG, hR⟩ := hset_facts hH9 k6
    refine ⟨(t8, H9), ⟨hR _ _ _ (fun _ _ q => by cases q) hr8, hG _ c6 hs8, by rw [← hH9]; exact (hk.grow hg8).set, fun j hj hlt => ?_, ?_⟩, ?_, sub_rfl⟩
    · by_cases e : j = i
      · subst e; rw [hr0]; exact hz
      · exact he j hj (by omega)
    · simp only
      rw [htk, isE_snoc, List.map_append, List.map_append]
      simp only [List.map_cons, List.map_nil, hr0, eMv]
      simpa using m6
    · simp only [go_sem, reduceIte, Nat.reduceEqDiff, Nat.reduceAdd, Nat.reduceMul, Nat.reduceSub, Nat.reduceLeDiff, Nat.reduceLT, reduceCtorEq]
  intro ⟨t, H⟩ ⟨hr, hs, hk, he, j6⟩
  simp only at hr hs hk he j6 ⊢
  rw [List.take_length] at j6
  rw [if_pos (errF_none fun j hj => he j hj hj)] at hE
  have j4 := hk _ _ h4 n4
  refine hK1 _ _ ?_
  refine aw_sr rfl ?_  -- r10 @renew.go:85
  simp only [go_sem, reduceIte, Nat.reduceEqDiff, Nat.reduceAdd, Nat.reduceMul, Nat.reduceSub, Nat.reduceLeDiff, Nat.reduceLT, reduceCtorEq, j4, j6]
  refine aw_ret ⟨trivial, ?_⟩
  simp only [go_sem, reduceIte, Nat.reduceEqDiff, Nat.reduceAdd, Nat.reduceMul, Nat.reduceSub, Nat.reduceLeDiff, Nat.reduceLT, reduceCtorEq, resL, resOf, hget_hset_self j4]
  refine ⟨_, rfl, ?_, sub_hset_fresh c4 hs⟩
  rw [← hE]
  simp only [wayV, List.isEmpty_map]
  exact Vle.tupL (.cons (Vle.aggL (by repeat (first | exact .nil | refine .cons (Vle.refl _) ?_ | refine .cons Vle.untag ?_ | refine .cons (Vle.aggL ?_) ?_ | refine .cons (Vle.slE ?_) ?_))) (.cons (Vle.refl _) .nil))
end Go.Proofs.Ytclmcpbanaojfaa

/- The way from a program to another one: the reference's. No conditions but sizes. -/
set_option linter.unusedSimpArgs false
set_option linter.unusedVariables false
namespace Go.Proofs.Ytclmcpbanaojfaa
open Go.Proofs.YtclmcpbanaojfaaV
open rp
open sm
set_option maxHeartbeats 8000000
set_option maxRecDepth 100000
namespace rp
abbrev kvI (p : Int) : V × V := (.int .i64 p, .bool true)
theorem look_I (p : Int) : ∀ (l : List Int) (i : Nat), lkF false (.bool false) (mfind (.int .i64 p) (l.map kvI) i) = some (True, .bool (decide (p ∈ l)))
  | [], i => rfl
  | q :: l, i => by
    simp only [List.map_cons, mfind, keyEq, if_true]
    by_cases h : p = q
    · rw [decide_eq_true h, decide_eq_true (by rw [h]; simp)]; rfl
    · rw [decide_eq_false h]
      refine (look_I p l (i + 1)).trans ?_
      have : (p ∈ l) = (p ∈ q :: l) := by simp [h]
      simp only [this]
theorem find_I (p : Int) : ∀ (l : List Int) (i : Nat), (¬ p ∈ l ∧ mfind (.int .i64 p) (l.map kvI) i = some none) ∨ ∃ j, ∃ h : j < l.length, l[j] = p ∧ mfind (.int .i64 p) (l.map kvI) i = some (some (i + j, .bool true))
  | [], i => .inl ⟨by simp, rfl⟩
  | q :: l, i => by
    simp only [List.map_cons, mfind, keyEq, if_true]
    by_cases h : p = q
    · rw [decide_eq_true h]; exact .inr ⟨0, by simp, by simp [h], rfl⟩
    · rw [decide_eq_false h]
      rcases find_I p l (i + 1) with ⟨h1, h2⟩ | ⟨j, hj, h1, h2⟩
      · exact .inl ⟨by simp [h, h1], h2⟩
      · exact .inr ⟨j + 1, by simpa using hj, by simpa using h1, by simp only; rw [h2]; congr 3; omega⟩
def insI (l : List Int) (p : Int) : List Int := if p ∈ l then l else l ++ [p]
theorem mem_insI {l : List Int} {p x : Int} : x ∈ insI l p ↔ x ∈ l ∨ x = p := by
  unfold insI
  split
  · rename_i h
    constructor
    · exact .inl
    · rintro (h1 | rfl)
      · exact h1
      · exact h
  · simp
theorem put_I (p : Int) (l : List Int) : ∃ r, mfind (.int .i64 p) (l.map kvI) 0 = some r ∧ mput (l.map kvI) (.int .i64 p) (.bool true) r = (insI l p).map kvI := by
  rcases find_I p l 0 with ⟨h1, h2⟩ | ⟨j, hj, h1, h2⟩
  · refine ⟨_, h2, ?_⟩
    rw [mput, insI, if_neg h1, List.map_append]; rfl
  · refine ⟨_, h2, ?_⟩
    have hm : p ∈ l := by rw [← h1]; exact List.getElem_mem hj
    rw [mput, insI, if_pos hm, Nat.zero_add]
    apply List.ext_getElem (by simp)
    intro n a b
    rw [List.getElem_set]
    split
    · rename_i e; subst e; simp [h1]
    · rfl
theorem KeepV.set3 {c d : Nat} {G H0 H : Heap} {x : AObj} (h0 : KeepV c G H0) (hd : hget H0 d = none) (h : KeepV c G H) : KeepV c G (hset H d x) := fun b cs hb hn => hset_keep (h b cs hb hn) fun e => by subst e; have := h0 _ cs hb hn; rw [hd] at this; cases this
theorem KeepV.setm {c d : Nat} {G H : Heap} {x o : AObj} (h : KeepV c G H) (hd : hget H d = some o) (ho : ∀ cs, o ≠ .vars cs) : KeepV c G (hset H d x) := fun b cs hb hn => hset_keep (h b cs hb hn) fun e => by
  subst e
  have := h _ cs hb hn
  rw [hd] at this
  cases this
  exact ho _ rfl
theorem KeepV.trans {c d : Nat} {G H B H' : Heap} (h : KeepV c G H) (hs : Sub H B) (h2 : KeepV d B H') (hd : hget H d = none) : KeepV c G H' := fun b cs hb hn => h2 b cs (hs _ _ (h b cs hb hn)) fun e => by
  subst e
  have := h _ cs hb hn
  rw [hd] at this
  cases this
/-- Where a name stands first among those from a place on. -/
def From (l : List N) (n : N) (m : Nat) (c : Int) : Prop := (c = -1 ∧ ∀ j (h : j < l.length), m ≤ j → ¬ l[j] = n) ∨ ∃ j, ∃ h : j < l.length, m ≤ j ∧ c = (j : Int) ∧ l[j] = n ∧ ∀ j' (h' : j' < l.length), m ≤ j' → j' < j → ¬ l[j'] = n
theorem From.all {l : List N} {n : N} {c : Int} (h : From l n 0 c) : (c = -1 ∧ l.findIdx? (fun x => decide (n = x)) = none) ∨ ∃ j, ∃ h : j < l.length, c = (j : Int) ∧ l.findIdx? (fun x => decide (n = x)) = some j := by
  rcases h with ⟨h1, h2⟩ | ⟨j, hj, _, h1, h2, h3⟩
  · refine .inl ⟨h1, List.findIdx?_eq_none_iff.2 fun x hx => ?_⟩
    obtain ⟨j, hj, rfl⟩ := List.getElem_of_mem hx
    exact decide_eq_false fun e => h2 j hj (Nat.zero_le _) e.symm
  · refine .inr ⟨j, hj, h1, List.findIdx?_eq_some_iff_getElem.2 ⟨hj, by simpa using h2.symm, fun j' hj' => ?_⟩⟩
    have := h3 j' (by omega) (Nat.zero_le _) hj'
    simpa using fun e : n = _ => this e.symm
theorem From.step {l : List N} {n : N} {m : Nat} {c : Int} (h : From l n (m + 1) c) (hm : m < l.length) : From l n m (if l[m] = n then (m : Int) else c) := by
  by_cases e : l[m] = n
  · rw [if_pos e]
    exact .inr ⟨m, hm, Nat.le_refl _, rfl, e, fun j' _ h1 h2 => by omega⟩
  · rw [if_neg e]
    rcases h with ⟨h1, h2⟩ | ⟨j, hj, h0, h1, h2, h3⟩
    · refine .inl ⟨h1, fun j hj hlt => ?_⟩
      by_cases q : j = m
      · subst q; exact e
      · exact h2 j hj (by omega)
    · refine .inr ⟨j, hj, by omega, h1, h2, fun j' hj' h4 h5 => ?_⟩
      by_cases q : j' = m
      · subst q; exact e
      · exact h3 j' hj' (by omega) h5
/-- Where an actor stands. -/
def StopA (l : List Acr) (s : N) (k : Nat) : Prop := k ≤ l.length ∧ (∀ j (hj : j < l.length), j < k → ¬ l[j].1 = s) ∧ (∀ h : k < l.length, l[k].1 = s)
theorem StopA.find {l : List Acr} {s : N} {k : Nat} (h : StopA l s k) : (k = l.length ∧ l.find? (fun d => decide (d.1 = s)) = none) ∨ ∃ hk : k < l.length, l.find? (fun d => decide (d.1 = s)) = some l[k] := by
  obtain ⟨h1, h2, h3⟩ := h
  by_cases hk : k < l.length
  · exact .inr ⟨hk, List.find?_eq_some_iff_getElem.2 ⟨by simpa using h3 hk, k, hk, rfl, fun j hj => by simpa using h2 j (by omega) hj⟩⟩
  · refine .inl ⟨by omega, List.find?_eq_none.2 fun x hx => ?_⟩
    obtain ⟨j, hj, rfl⟩ := List.getElem_of_mem hx
    simpa using h2 j hj (by omega)
end rp
theorem q_rNo (e : Int) : Quiet Try.prog 123 [.int .i64 e] (.tup [.agg [.sl [] true .no], .int .i64 e]) := by
  refine Quiet.weak fun G => ?_
  refine acall_body (rs := [.cell 2 161, .tmp 3]) Try.func123 rfl rfl Try.ntmps123 (by kernel_rfl) (Nat.le_of_ble_eq_true rfl) ?_
  refine aw_sr rfl ?_
  simp only [go_sem, reduceIte, Nat.reduceEqDiff, Nat.reduceAdd, Nat.reduceMul, Nat.reduceSub, Nat.reduceLeDiff, Nat.reduceLT, reduceCtorEq]
  intro b2 hb2
  refine aw_box1 hb2 fun B1 hs1 h2 => ?_
  refine aw_sr rfl ?_
  simp only [go_sem, reduceIte, Nat.reduceEqDiff, Nat.reduceAdd, Nat.reduceMul, Nat.reduceSub, Nat.reduceLeDiff, Nat.reduceLT, reduceCtorEq, h2]
  refine aw_ret ⟨trivial, ?_⟩
  simp only [go_sem, reduceIte, Nat.reduceEqDiff, Nat.reduceAdd, Nat.reduceMul, Nat.reduceSub, Nat.reduceLeDiff, Nat.reduceLT, reduceCtorEq, resL, resOf, hget_hset_self h2]
  refine ⟨_, rfl, ?_, sub_hset_fresh hb2 hs1⟩
  exact Vle.tupL (.cons (Vle.aggL (by repeat (first | exact .nil | refine .cons (Vle.refl _) ?_ | refine .cons Vle.untag ?_ | refine .cons (Vle.aggL ?_) ?_ | refine .cons (Vle.slE ?_) ?_))) (.cons (Vle.refl _) .nil))
theorem q_rPlan (p q : Prgm) (op : o29 p) (oq : o29 q) :
    Quiet Try.prog 72 [.agg (cPrg p), .agg (cPrg q)] (wayV (wayF p q)) := by
  have hpA : o27 p.2.2.2.2.2.2.2 := op.2.2.2.2.2.2.2
  have hqA : o27 q.2.2.2.2.2.2.2 := oq.2.2.2.2.2.2.2
  have hp4 : o23 p.2.2.2.1 := op.2.2.2.1
  have hq4 : o23 q.2.2.2.1 := oq.2.2.2.1
  have hpl : p.2.2.2.2.2.2.2.1.length ≤ 1048576 := hpA.2.1
  have hql : q.2.2.2.2.2.2.2.1.length ≤ 1048576 := hqA.2.1
  have ik : (IntKind.i64 == IntKind.i64) = true := rfl
  have hE : wayF p q = wayF p q := rfl
  conv at hE => lhs; unfold wayF
  refine Quiet.weak fun G => ?_
  refine acall_body (rs := [.cell 4 161, .tmp 5]) Try.func72 rfl rfl Try.ntmps72 (by kernel_rfl) (Nat.le_of_ble_eq_true rfl) ?_
  refine aw_sr rfl ?_  -- r0 @picks.go:478
  simp only [go_sem, reduceIte, Nat.reduceEqDiff, Nat.reduceAdd, Nat.reduceMul, Nat.reduceSub, Nat.reduceLeDiff, Nat.reduceLT, reduceCtorEq]
  intro b2 hb2 b3 hb3 b4 hb4
  obtain ⟨_, c1⟩ := fresh_cons hb4
  obtain ⟨_, c4⟩ := fresh_cons c1
  refine aw_box3 hb2 hb3 hb4 fun B1 hs1 h2 h3 h4 _ _ _ _ _ _ => ?_
  have hsB := hs1
  clear c1
  simp only [e29] at h2 h3
  refine aw_sr rfl ?_  -- r1 @picks.go:479
  simp only [go_sem, reduceIte, Nat.reduceEqDiff, Nat.reduceAdd, Nat.reduceMul, Nat.reduceSub, Nat.reduceLeDiff, Nat.reduceLT, reduceCtorEq]
  intro b6 hb6
  have c6 : hget G b6 = none := none_sub hsB hb6
  have n2 : ¬ b2 = b6 := ne_fresh h2 hb6
  have n3 : ¬ b3 = b6 := ne_fresh h3 hb6
  have n4 : ¬ b4 = b6 := ne_fresh h4 hb6
  refine aw_box1 hb6 fun B2 hs2 h6 => ?_
  replace h2 := hs2 _ _ h2
  replace h3 := hs2 _ _ h3
  replace h4 := hs2 _ _ h4
  replace hsB := sub_trans hsB hs2
  refine aw_sr rfl ?_  -- r2 @picks.go:480
  simp only [go_sem, reduceIte, Nat.reduceEqDiff, Nat.reduceAdd, Nat.reduceMul, Nat.reduceSub, Nat.reduceLeDiff, Nat.reduceLT, reduceCtorEq]
  refine aw_seq fun K1 hK1 => ?_
  refine aw_sr rfl ?_  -- r3 @picks.go:481
  simp only [go_sem, reduceIte, Nat.reduceEqDiff, Nat.reduceAdd, Nat.reduceMul, Nat.reduceSub, Nat.reduceLeDiff, Nat.reduceLT, reduceCtorEq, h2]
  generalize hAd : p.2.2.2.2.2.2.2.1 = As at hE hpl
  generalize hBd : q.2.2.2.2.2.2.2.1 = Bs at hql
  have hret : ∀ (H : Heap) (e : Int), ¬ e = 0 → wayF p q = ([], e) → Sub G H → hget H b4 = some (.vars [.sl [] true .full]) → True := fun _ _ _ _ _ _ => trivial
  refine aw_range As.length (S := Tag × Heap) (fun i _ => [(2, .ptr b2 0), (3, .ptr b3 0), (4, .ptr b4 0), (6, .ptr b6 0), (7, .func (.func 123) [] []), (22, .sl (As.map eAcr) p.2.2.2.2.2.2.2.2 .no)]) (fun _ s => s.2)
    (fun i s => Rm G s.2 4 s.1 ∧ Sub G s.2 ∧ KeepV b6 B2 s.2 ∧ (∀ j (hj : j < As.length), j < i → (moveF p q As[j]).2 = 0) ∧ hget s.2 b6 = some (.vars [.sl (((As.take i).map fun x => (moveF p q x).1).map eMv) (As.take i).isEmpty s.1])) (.full, B2) (by omega) ?_ (fun _ _ h => h)
    ⟨Rm.start _ _ _, hsB, KeepV.refl _ _, fun j hj h => absurd h (by omega), h6⟩ rfl (fun _ _ => rfl) ?_ ?_ (by decide)
  · simp only [go_sem, reduceIte, Nat.reduceEqDiff, Nat.reduceAdd, Nat.reduceMul, Nat.reduceSub, Nat.reduceLeDiff, Nat.reduceLT, reduceCtorEq, Int.natCast_zero]
  · intro i ⟨tw, H⟩ hi ⟨hr, hs, hk, he, j6⟩
    simp only at hr hs hk he j6 ⊢
    have j2 := hk _ _ h2 n2
    have j3 := hk _ _ h3 n3
    have j4 := hk _ _ h4 n4
    have htk : As.take (i + 1) = As.take i ++ [As[i]] := List.take_succ_eq_append_getElem hi
    have hat_ := errF_at (g := moveF p q) hi he
    have oa := hpA.2.2 As[i] (by rw [hAd]; exact List.getElem_mem hi)
    refine aw_sr rfl ?_  -- r5 @picks.go:481
    simp only [go_sem, reduceIte, Nat.reduceEqDiff, Nat.reduceAdd, Nat.reduceMul, Nat.reduceSub, Nat.reduceLeDiff, Nat.reduceLT, reduceCtorEq, getD_map hi, e42]
    refine ⟨⟨by omega, by omega, wid_eAcr _⟩, ?_⟩
    have hEr : ∀ e : Int, (moveF p q As[i]).2 = e → ¬ e = 0 → wayF p q = ([], e) := fun e h1 h2 => by
      have h3 : ¬ (moveF p q As[i]).2 = 0 := by rw [h1]; exact h2
      rw [hat_ h3, if_neg h3] at hE
      rw [← hE, h1]
    generalize haa : As[i] = a at oa htk hat_ hEr
    have hal : a.2.1.1.length ≤ 1048576 := oa.2.1.2.1
    have hat : a.2.2.1.1.length ≤ 1048576 := oa.2.2.1.len
    have hM : moveF p q a = moveF p q a := rfl
    conv at hM => lhs; unfold moveF
    intro b9 hb9
    have n29 : ¬ b2 = b9 := ne_fresh j2 hb9
    refine aw_box1 hb9 fun B3 hs3 h9 => ?_
    replace hr := hr.sub hs3
    replace hs := sub_trans hs hs3
    replace hk := hk.sub hs3
    replace j2 := hs3 _ _ j2
    replace j3 := hs3 _ _ j3
    replace j4 := hs3 _ _ j4
    replace j6 := hs3 _ _ j6
    refine aw_sr rfl ?_  -- r6 @picks.go:482
    simp only [go_sem, reduceIte, Nat.reduceEqDiff, Nat.reduceAdd, Nat.reduceMul, Nat.reduceSub, Nat.reduceLeDiff, Nat.reduceLT, reduceCtorEq]
    refine aw_mid (fun f' G' => ∃ k, StopA Bs a.1 k ∧ FSub [(2, .ptr b2 0), (3, .ptr b3 0), (4, .ptr b4 0), (6, .ptr b6 0), (7, .func (.func 123) [] []), (9, .ptr b9 0), (10, .int .i64 ((k : Nat) : Int)), (22, .sl (As.map eAcr) p.2.2.2.2.2.2.2.2 .no), (23, .int .i64 ((As.length : Nat) : Int)), (24, .int .i64 ((i : Nat) : Int))] f' ∧ G' = B3) ?_ ?_
    · refine aw_block ?_  -- 2
      refine aw_lph (S := {k : Nat // k ≤ Bs.length ∧ ∀ j (hj : j < Bs.length), j < k → ¬ Bs[j].1 = a.1}) (fun k => [(2, .ptr b2 0), (3, .ptr b3 0), (4, .ptr b4 0), (6, .ptr b6 0), (7, .func (.func 123) [] []), (9, .ptr b9 0), (10, .int .i64 ((k.1 : Nat) : Int)), (22, .sl (As.map eAcr) p.2.2.2.2.2.2.2.2 .no), (23, .int .i64 ((As.length : Nat) : Int)), (24, .int .i64 ((i : Nat) : Int))]) (fun _ => B3) (fun k => Bs.length - k.1) ⟨0, by omega, fun j _ h => by omega⟩ ?_ (fun _ _ h => h) ?_
      · simp only [go_sem, reduceIte, Nat.reduceEqDiff, Nat.reduceAdd, Nat.reduceMul, Nat.reduceSub, Nat.reduceLeDiff, Nat.reduceLT, reduceCtorEq, Int.natCast_zero]
      intro ⟨k, hk1, hk2⟩
      simp only
      refine aw_seq fun K3 hK3 => ?_
      refine aw_srd [(0,true),(1,true),(2,true),(3,true),(4,true),(5,true),(6,true),(7,true),(8,true),(9,true),(10,true),(11,true),(12,true),(13,true),(14,true),(15,true)] mixed rfl (by kernel_rfl) ?_  -- r7 @picks.go:483
      by_cases hkl : k < Bs.length
      · have dk : decide ((k : Int) < (Bs.length : Int)) = true := decide_eq_true (by omega)
        simp only [go_sem, reduceIte, Nat.reduceEqDiff, Nat.reduceAdd, Nat.reduceMul, Nat.reduceSub, Nat.reduceLeDiff, Nat.reduceLT, reduceCtorEq, j3, h9, hBd, getD_map hkl, e42, List.length_map, dk, true_imp_iff]
        refine ⟨⟨by omega, by omega, wid_eAcr _⟩, ?_⟩
        refine aw_if rfl (fun h => ?_) (fun h => ?_)
        · have hne : ¬ Bs[k].1 = a.1 := by simpa using h
          refine aw_skip (hK3 _ _ ?_)
          refine aw_block ?_  -- 3
          refine aw_rg rfl ?_  -- r8 @picks.go:484
          simp only [go_sem, reduceIte, Nat.reduceEqDiff, Nat.reduceAdd, Nat.reduceMul, Nat.reduceSub, Nat.reduceLeDiff, Nat.reduceLT, reduceCtorEq, wrap64 (show -9223372036854775808 ≤ (k : Int) + 1 by omega) (show (k : Int) + 1 ≤ 9223372036854775807 by omega)]
          refine ⟨⟨k + 1, by omega, fun j hj hlt => ?_⟩, by simp only; omega, ?_, sub_rfl⟩
          · by_cases e : j = k
            · subst e; exact hne
            · exact hk2 j hj (by omega)
          · simp only [go_sem, reduceIte, Nat.reduceEqDiff, Nat.reduceAdd, Nat.reduceMul, Nat.reduceSub, Nat.reduceLeDiff, Nat.reduceLT, reduceCtorEq]
            rw [Int.natCast_succ]
        have heq : Bs[k].1 = a.1 := by simpa using h
        refine aw_exit ?_  -- 2
        exact ⟨k, ⟨hk1, hk2, fun _ => heq⟩, (by repeat' first | exact rfl | exact trivial | refine And.intro ?_ ?_), rfl⟩
      · have dk : decide ((k : Int) < (Bs.length : Int)) = false := decide_eq_false (by omega)
        simp only [go_sem, reduceIte, Nat.reduceEqDiff, Nat.reduceAdd, Nat.reduceMul, Nat.reduceSub, Nat.reduceLeDiff, Nat.reduceLT, reduceCtorEq, j3, hBd, List.length_map, dk, true_imp_iff, false_imp_iff, Bool.false_eq_true]
        repeat' first
          | (refine sm.goG_off fun v => ?_
             simp only [go_sem, reduceIte, Nat.reduceEqDiff, Nat.reduceAdd, Nat.reduceMul, Nat.reduceSub, Nat.reduceLeDiff, Nat.reduceLT, reduceCtorEq, j3, h9, hBd, dk, true_imp_iff, false_imp_iff, Bool.false_eq_true])
        refine aw_if rfl (fun h => by cases h) (fun h => ?_)
        refine aw_exit ?_  -- 2
        exact ⟨k, ⟨hk1, hk2, fun h => absurd h hkl⟩, (by repeat' first | exact rfl | exact trivial | refine And.intro ?_ ?_), rfl⟩
    intro f' G' ⟨k, hstop, hf, hg⟩
    rw [hg]
    refine AW.of_fsub hf ?_
    clear hf hg
    have hkB := hstop.1
    have hacr : acrF q a.1 = Bs.find? fun d => decide (d.1 = a.1) := by unfold acrF; rw [hBd]
    rw [hacr] at hM
    refine aw_seq fun K4 hK4 => ?_
    refine aw_sr rfl ?_  -- r9 @picks.go:486
    simp only [go_sem, reduceIte, Nat.reduceEqDiff, Nat.reduceAdd, Nat.reduceMul, Nat.reduceSub, Nat.reduceLeDiff, Nat.reduceLT, reduceCtorEq, j3, hBd, List.length_map]
    rcases hstop.find with ⟨e1, e2⟩ | ⟨hkl, e2⟩
    · rw [e2] at hM
      simp only at hM
      refine aw_if rfl (fun h => ?_) (fun h => absurd (congrArg (Nat.cast (R := Int)) e1) (by simpa using h))
      refine aw_sr rfl ?_  -- r10 @picks.go:487
      simp only [go_sem, reduceIte, Nat.reduceEqDiff, Nat.reduceAdd, Nat.reduceMul, Nat.reduceSub, Nat.reduceLeDiff, Nat.reduceLT, reduceCtorEq, j4]
      refine goA_q (q_rNo 4) ?_
      simp only [go_sem, reduceIte, Nat.reduceEqDiff, Nat.reduceAdd, Nat.reduceMul, Nat.reduceSub, Nat.reduceLeDiff, Nat.reduceLT, reduceCtorEq, j4]
      refine aw_ret ⟨trivial, ?_⟩
      simp only [go_sem, reduceIte, Nat.reduceEqDiff, Nat.reduceAdd, Nat.reduceMul, Nat.reduceSub, Nat.reduceLeDiff, Nat.reduceLT, reduceCtorEq, resL, resOf, hget_hset_self j4]
      refine ⟨_, rfl, ?_, sub_hset_fresh c4 hs⟩
      rw [hEr 4 (by rw [← hM]) (by decide)]
      exact Vle.tupL (.cons (Vle.aggL (by repeat (first | exact .nil | refine .cons (Vle.refl _) ?_ | refine .cons Vle.untag ?_ | refine .cons (Vle.aggL ?_) ?_ | refine .cons (Vle.slE ?_) ?_))) (.cons (Vle.refl _) .nil))
    rw [e2] at hM
    simp only at hM
    refine aw_if rfl (fun h => absurd h (by simp; omega)) (fun h => ?_)
    refine aw_skip (hK4 _ _ ?_)
    have ob := hqA.2.2 Bs[k] (by rw [hBd]; exact List.getElem_mem hkl)
    refine aw_sr rfl ?_  -- r11 @picks.go:489
    simp only [go_sem, reduceIte, Nat.reduceEqDiff, Nat.reduceAdd, Nat.reduceMul, Nat.reduceSub, Nat.reduceLeDiff, Nat.reduceLT, reduceCtorEq, j3, hBd, getD_map hkl, e42, List.length_map]
    refine ⟨⟨by omega, by omega, wid_eAcr _⟩, ?_⟩
    generalize Bs[k] = b at ob hM
    have hbl : b.2.1.1.length ≤ 1048576 := ob.2.1.2.1
    have hbt : b.2.2.1.1.length ≤ 1048576 := ob.2.2.1.len
    intro b11 hb11
    refine aw_box1 hb11 fun B4 hs4 h11 => ?_
    replace hr := hr.sub hs4
    replace hs := sub_trans hs hs4
    replace hk := hk.sub hs4
    replace j2 := hs4 _ _ j2
    replace j3 := hs4 _ _ j3
    replace j4 := hs4 _ _ j4
    replace j6 := hs4 _ _ j6
    replace h9 := hs4 _ _ h9
    refine aw_seq fun K5 hK5 => ?_
    refine aw_sr rfl ?_  -- r12 @picks.go:490
    simp only [go_sem, reduceIte, Nat.reduceEqDiff, Nat.reduceAdd, Nat.reduceMul, Nat.reduceSub, Nat.reduceLeDiff, Nat.reduceLT, reduceCtorEq, h9, h11, List.length_map]
    by_cases hc : a.2.1.1.length ≠ a.2.2.1.1.length ∨ b.2.1.1.length ≠ b.2.2.1.1.length
    · rw [if_pos hc] at hM
      refine aw_if rfl (fun h => ?_) (fun h => ?_)
      · refine aw_sr rfl ?_  -- r13 @picks.go:491
        simp only [go_sem, reduceIte, Nat.reduceEqDiff, Nat.reduceAdd, Nat.reduceMul, Nat.reduceSub, Nat.reduceLeDiff, Nat.reduceLT, reduceCtorEq, j4]
        refine goA_q (q_rNo 3) ?_
        simp only [go_sem, reduceIte, Nat.reduceEqDiff, Nat.reduceAdd, Nat.reduceMul, Nat.reduceSub, Nat.reduceLeDiff, Nat.reduceLT, reduceCtorEq, j4]
        refine aw_ret ⟨trivial, ?_⟩
        simp only [go_sem, reduceIte, Nat.reduceEqDiff, Nat.reduceAdd, Nat.reduceMul, Nat.reduceSub, Nat.reduceLeDiff, Nat.reduceLT, reduceCtorEq, resL, resOf, hget_hset_self j4]
        refine ⟨_, rfl, ?_, sub_hset_fresh c4 hs⟩
        rw [hEr 3 (by rw [← hM]) (by decide)]
        exact Vle.tupL (.cons (Vle.aggL (by repeat (first | exact .nil | refine .cons (Vle.refl _) ?_ | refine .cons Vle.untag ?_ | refine .cons (Vle.aggL ?_) ?_ | refine .cons (Vle.slE ?_) ?_))) (.cons (Vle.refl _) .nil))
      · exfalso
        revert h
        by_cases h1 : a.2.1.1.length = a.2.2.1.1.length
        · have h2 := hc.resolve_left (fun h => h h1)
          simp [h1, h2, Int.natCast_inj]
        · simp [h1, Int.natCast_inj]
    rw [if_neg hc] at hM
    have hc1 : a.2.1.1.length = a.2.2.1.1.length := Classical.byContradiction fun h => hc (.inl h)
    have hc2 : b.2.1.1.length = b.2.2.1.1.length := Classical.byContradiction fun h => hc (.inr h)
    refine aw_if rfl (fun h => ?_) (fun h => ?_)
    · exfalso
      revert h
      simp [hc1, hc2]
    refine aw_skip (hK5 _ _ ?_)
    clear hc
    have hS := q_rShapeSame hp4 hq4 oa.2.2.2.1.1 (b := b.2.2.2.1)
    simp only [e29] at hS
    refine aw_seq fun K6 hK6 => ?_
    refine aw_sr rfl ?_  -- r14 @picks.go:493
    simp only [go_sem, reduceIte, Nat.reduceEqDiff, Nat.reduceAdd, Nat.reduceMul, Nat.reduceSub, Nat.reduceLeDiff, Nat.reduceLT, reduceCtorEq, j2, j3, h9, h11]
    refine goA_q hS ?_
    simp only [go_sem, reduceIte, Nat.reduceEqDiff, Nat.reduceAdd, Nat.reduceMul, Nat.reduceSub, Nat.reduceLeDiff, Nat.reduceLT, reduceCtorEq, j2, j3, h9, h11]
    cases hss : sameF (big p q) [] [] a.2.2.2.1 b.2.2.2.1 with
    | false =>
      rw [if_neg (by rw [hss]; simp)] at hM
      refine aw_if rfl (fun h => ?_) (fun h => by cases h)
      refine aw_sr rfl ?_  -- r15 @picks.go:494
      simp only [go_sem, reduceIte, Nat.reduceEqDiff, Nat.reduceAdd, Nat.reduceMul, Nat.reduceSub, Nat.reduceLeDiff, Nat.reduceLT, reduceCtorEq, j4]
      refine goA_q (q_rNo 12) ?_
      simp only [go_sem, reduceIte, Nat.reduceEqDiff, Nat.reduceAdd, Nat.reduceMul, Nat.reduceSub, Nat.reduceLeDiff, Nat.reduceLT, reduceCtorEq, j4]
      refine aw_ret ⟨trivial, ?_⟩
      simp only [go_sem, reduceIte, Nat.reduceEqDiff, Nat.reduceAdd, Nat.reduceMul, Nat.reduceSub, Nat.reduceLeDiff, Nat.reduceLT, reduceCtorEq, resL, resOf, hget_hset_self j4]
      refine ⟨_, rfl, ?_, sub_hset_fresh c4 hs⟩
      rw [hEr 12 (by rw [← hM]) (by decide)]
      exact Vle.tupL (.cons (Vle.aggL (by repeat (first | exact .nil | refine .cons (Vle.refl _) ?_ | refine .cons Vle.untag ?_ | refine .cons (Vle.aggL ?_) ?_ | refine .cons (Vle.slE ?_) ?_))) (.cons (Vle.refl _) .nil))
    | true =>
    rw [if_pos hss] at hM
    refine aw_if rfl (fun h => by cases h) (fun h => ?_)
    refine aw_skip (hK6 _ _ ?_)
    refine aw_sr rfl ?_  -- r16 @picks.go:496
    simp only [go_sem, reduceIte, Nat.reduceEqDiff, Nat.reduceAdd, Nat.reduceMul, Nat.reduceSub, Nat.reduceLeDiff, Nat.reduceLT, reduceCtorEq, h9]
    intro b12 hb12
    have c12 : hget G b12 = none := none_sub hs hb12
    have m2 : ¬ b2 = b12 := ne_fresh j2 hb12
    have m3 : ¬ b3 = b12 := ne_fresh j3 hb12
    have m4 : ¬ b4 = b12 := ne_fresh j4 hb12
    have m6 : ¬ b6 = b12 := ne_fresh j6 hb12
    have m9 : ¬ b9 = b12 := ne_fresh h9 hb12
    have m11 : ¬ b11 = b12 := ne_fresh h11 hb12
    refine aw_box1 hb12 fun B5 hs5 h12 => ?_
    replace hr := hr.sub hs5
    replace hs := sub_trans hs hs5
    replace j2 := hs5 _ _ j2
    replace j3 := hs5 _ _ j3
    replace j4 := hs5 _ _ j4
    replace j6 := hs5 _ _ j6
    replace h9 := hs5 _ _ h9
    replace h11 := hs5 _ _ h11
    refine aw_sr rfl ?_  -- r17 @picks.go:497
    simp only [go_sem, reduceIte, Nat.reduceEqDiff, Nat.reduceAdd, Nat.reduceMul, Nat.reduceSub, Nat.reduceLeDiff, Nat.reduceLT, reduceCtorEq]
    intro b98 hb98
    have c98 : hget G b98 = none := none_sub hs hb98
    refine aw_box1 hb98 fun B6 hs6 h98 => ?_
    have m98 : ¬ b12 = b98 := ne_fresh h12 hb98
    replace hr := hr.sub hs6
    replace hs := sub_trans hs hs6
    have hs56 := sub_trans hs5 hs6
    replace j2 := hs6 _ _ j2
    replace j3 := hs6 _ _ j3
    replace j4 := hs6 _ _ j4
    replace j6 := hs6 _ _ j6
    replace h9 := hs6 _ _ h9
    replace h11 := hs6 _ _ h11
    replace h12 := hs6 _ _ h12
    have hL : (b.2.1.1.zip b.2.2.1.1).length = b.2.1.1.length := by simp [hc2]
    generalize hLd : b.2.1.1.zip b.2.2.1.1 = L at hM hL
    have hLi : ∀ i (h : i < L.length), L[i] = (b.2.1.1[i]'(by omega), b.2.2.1.1[i]'(by omega)) := by
      intro i h; subst hLd; rw [List.getElem_zip]
    refine aw_seq fun K7 hK7 => ?_
    refine aw_sr rfl ?_  -- r18 @picks.go:498
    simp only [go_sem, reduceIte, Nat.reduceEqDiff, Nat.reduceAdd, Nat.reduceMul, Nat.reduceSub, Nat.reduceLeDiff, Nat.reduceLT, reduceCtorEq, h11]
    refine aw_range b.2.1.1.length (S := List Int × Tag × Heap) (fun k _ => [(2, .ptr b2 0), (3, .ptr b3 0), (4, .ptr b4 0), (6, .ptr b6 0), (7, .func (.func 123) [] []), (9, .ptr b9 0), (11, .ptr b11 0), (12, .ptr b12 0), (13, .map b98), (22, .sl (As.map eAcr) p.2.2.2.2.2.2.2.2 .no), (23, .int .i64 ((As.length : Nat) : Int)), (24, .int .i64 ((i : Nat) : Int)), (100, .sl (b.2.1.1.map eNm) b.2.1.2 .no)]) (fun _ s => s.2.2)
      (fun k s => Rm G s.2.2 5 s.2.1 ∧ Rm G s.2.2 4 tw ∧ Dis s.2.1 tw ∧ Sub G s.2.2 ∧ KeepV b12 B6 s.2.2 ∧ (∀ j (hj : j < L.length), j < k → (fldG p q a L[j]).2 = 0) ∧ hget s.2.2 b98 = some (.map (s.1.map kvI)) ∧ (∀ x, x ∈ s.1 ↔ ∃ f ∈ (L.take k).map (fun x => (fldG p q a x).1), f.1 = x) ∧
        hget s.2.2 b12 = some (.vars [.str a.1, .int .i64 a.2.1.1.length, .sl (((L.take k).map fun x => (fldG p q a x).1).map eFd) (L.take k).isEmpty s.2.1, .sl [] true .full])) ([], .full, B6) (by omega) ?_ (fun _ _ h => h)
      ⟨Rm.start _ _ _, hr, Dis.full' _, hs, KeepV.refl _ _, fun j hj h => absurd h (by omega), h98, fun x => by simp, by simpa using h12⟩ rfl (fun _ _ => rfl) ?_ ?_ (by decide)
    · simp only [go_sem, reduceIte, Nat.reduceEqDiff, Nat.reduceAdd, Nat.reduceMul, Nat.reduceSub, Nat.reduceLeDiff, Nat.reduceLT, reduceCtorEq, Int.natCast_zero]
    · intro k ⟨US, t, H5⟩ hi1 ⟨hr5, hrw, hdis, hs5', hk5, he5, l98, hUS, l12⟩
      simp only at hr5 hrw hdis hs5' hk5 he5 l98 hUS l12 ⊢
      have l2 := hk5 _ _ j2 m2
      have l3 := hk5 _ _ j3 m3
      have l4 := hk5 _ _ j4 m4
      have l9 := hk5 _ _ h9 m9
      have l11 := hk5 _ _ h11 m11
      have hkL : k < L.length := by omega
      have hi2 : k < b.2.2.1.1.length := by omega
      have htkL : L.take (k + 1) = L.take k ++ [L[k]] := List.take_succ_eq_append_getElem hkL
      have hatL := errF_at (g := fldG p q a) hkL he5
      have hfE : fldG p q a L[k] = fieldF p q a b.2.1.1[k] b.2.2.1.1[k] := by rw [hLi k hkL]; rfl
      have obt := ob.2.2.1.2.2 _ (List.getElem_mem hi2)
      have hErL : ∀ e : Int, (fldG p q a L[k]).2 = e → ¬ e = 0 → wayF p q = ([], e) := fun e h1 h2 => by
        have h3 : ¬ (fldG p q a L[k]).2 = 0 := by rw [h1]; exact h2
        rw [hatL h3, if_neg h3, h1] at hM
        exact hEr e (by rw [← hM]) h2
      generalize hrE : fldG p q a L[k] = r at hfE hatL hErL
      refine aw_sr rfl ?_  -- r20 @picks.go:498
      simp only [go_sem, reduceIte, Nat.reduceEqDiff, Nat.reduceAdd, Nat.reduceMul, Nat.reduceSub, Nat.reduceLeDiff, Nat.reduceLT, reduceCtorEq, getD_map hi1, eNm]
      refine ⟨⟨by omega, by omega, wid_eNm' _⟩, ?_⟩
      generalize hnm : b.2.1.1[k] = nm at hfE
      refine aw_sr rfl ?_  -- r21 @picks.go:499
      simp only [go_sem, reduceIte, Nat.reduceEqDiff, Nat.reduceAdd, Nat.reduceMul, Nat.reduceSub, Nat.reduceLeDiff, Nat.reduceLT, reduceCtorEq]
      intro b16 hb16
      have c16 : hget G b16 = none := none_sub hs5' hb16
      have q2 : ¬ b2 = b16 := ne_fresh l2 hb16
      have q3 : ¬ b3 = b16 := ne_fresh l3 hb16
      have q4 : ¬ b4 = b16 := ne_fresh l4 hb16
      have q9 : ¬ b9 = b16 := ne_fresh l9 hb16
      have q11 : ¬ b11 = b16 := ne_fresh l11 hb16
      have q12 : ¬ b12 = b16 := ne_fresh l12 hb16
      have q98 : ¬ b98 = b16 := ne_fresh l98 hb16
      refine aw_box1 hb16 fun B7 hs7 h16 => ?_
      have hk50 := hk5
      replace hr5 := hr5.sub hs7
      replace hrw := hrw.sub hs7
      replace hs5' := sub_trans hs5' hs7
      replace hk5 := hk5.sub hs7
      replace l2 := hs7 _ _ l2
      replace l3 := hs7 _ _ l3
      replace l4 := hs7 _ _ l4
      replace l9 := hs7 _ _ l9
      replace l11 := hs7 _ _ l11
      replace l12 := hs7 _ _ l12
      replace l98 := hs7 _ _ l98
      refine aw_mid (fun f' G' => ∃ c, From a.2.1.1 nm 0 c ∧ FSub [(2, .ptr b2 0), (3, .ptr b3 0), (4, .ptr b4 0), (6, .ptr b6 0), (7, .func (.func 123) [] []), (9, .ptr b9 0), (11, .ptr b11 0), (12, .ptr b12 0), (13, .map b98), (14, .int .i64 ((k : Nat) : Int)), (16, .ptr b16 0), (22, .sl (As.map eAcr) p.2.2.2.2.2.2.2.2 .no), (23, .int .i64 ((As.length : Nat) : Int)), (24, .int .i64 ((i : Nat) : Int)), (100, .sl (b.2.1.1.map eNm) b.2.1.2 .no), (101, .int .i64 ((b.2.1.1.length : Nat) : Int)), (102, .int .i64 ((k : Nat) : Int))] f' ∧ G' = hset B7 b16 (.vars [.int .i64 c, .int .i64 0, .int .i64 0, .str [], .sl [] true .full])) ?_ ?_
      · refine aw_sr rfl ?_  -- r22 @picks.go:500
        simp only [go_sem, reduceIte, Nat.reduceEqDiff, Nat.reduceAdd, Nat.reduceMul, Nat.reduceSub, Nat.reduceLeDiff, Nat.reduceLT, reduceCtorEq, l9]
        refine aw_block ?_  -- 6
        refine aw_lph (S := {s : Nat × Int // s.1 ≤ a.2.1.1.length ∧ From a.2.1.1 nm s.1 s.2}) (fun s => [(2, .ptr b2 0), (3, .ptr b3 0), (4, .ptr b4 0), (6, .ptr b6 0), (7, .func (.func 123) [] []), (9, .ptr b9 0), (11, .ptr b11 0), (12, .ptr b12 0), (13, .map b98), (14, .int .i64 ((k : Nat) : Int)), (15, .str nm), (16, .ptr b16 0), (17, .int .i64 ((s.1.1 : Int) - 1)), (22, .sl (As.map eAcr) p.2.2.2.2.2.2.2.2 .no), (23, .int .i64 ((As.length : Nat) : Int)), (24, .int .i64 ((i : Nat) : Int)), (100, .sl (b.2.1.1.map eNm) b.2.1.2 .no), (101, .int .i64 ((b.2.1.1.length : Nat) : Int)), (102, .int .i64 ((k : Nat) : Int))]) (fun s => hset B7 b16 (.vars [.int .i64 s.1.2, .int .i64 0, .int .i64 0, .str [], .sl [] true .full])) (fun s => s.1.1) ⟨(a.2.1.1.length, -1), Nat.le_refl _, .inl ⟨rfl, fun j h1 h2 => by omega⟩⟩ ?_ (by rw [hset_same h16]; exact fun _ _ h => h) ?_
        · simp only [go_sem, reduceIte, Nat.reduceEqDiff, Nat.reduceAdd, Nat.reduceMul, Nat.reduceSub, Nat.reduceLeDiff, Nat.reduceLT, reduceCtorEq, List.length_map, wrap64 (show -9223372036854775808 ≤ (a.2.1.1.length : Int) - 1 by omega) (show (a.2.1.1.length : Int) - 1 ≤ 9223372036854775807 by omega)]
        intro ⟨⟨m, c⟩, hm1, hm2⟩
        simp only at hm1 hm2 ⊢
        generalize hHc : hset B7 b16 (.vars [.int .i64 c, .int .i64 0, .int .i64 0, .str [], .sl [] true .full]) = Hc
        have g9 := hset_keep (x := (.vars [.int .i64 c, .int .i64 0, .int .i64 0, .str [], .sl [] true .full])) l9 q9
        rw [hHc] at g9
        have g16 : hget Hc b16 = some (.vars [.int .i64 c, .int .i64 0, .int .i64 0, .str [], .sl [] true .full]) := by rw [← hHc]; exact hget_hset_self h16
        refine aw_seq fun K9 hK9 => ?_
        refine aw_sr rfl ?_  -- r23 @picks.go:500
        simp only [go_sem, reduceIte, Nat.reduceEqDiff, Nat.reduceAdd, Nat.reduceMul, Nat.reduceSub, Nat.reduceLeDiff, Nat.reduceLT, reduceCtorEq]
        cases m with
        | zero =>
          refine aw_if rfl (fun h => absurd h (by simp)) (fun h => ?_)
          refine aw_exit ?_  -- 6
          exact ⟨c, hm2, (by repeat' first | exact rfl | exact trivial | refine And.intro ?_ ?_), hHc.symm⟩
        | succ m =>
          have em : (((m + 1 : Nat) : Int) - 1) = (m : Int) := by omega
          have hml : m < a.2.1.1.length := by omega
          have hst := hm2.step hml
          rw [em]
          refine aw_if rfl (fun h => ?_) (fun h => absurd h (by simp))
          refine aw_skip (hK9 _ _ ?_)
          refine aw_mid (fun f' G' => FSub [(2, .ptr b2 0), (3, .ptr b3 0), (4, .ptr b4 0), (6, .ptr b6 0), (7, .func (.func 123) [] []), (9, .ptr b9 0), (11, .ptr b11 0), (12, .ptr b12 0), (13, .map b98), (14, .int .i64 ((k : Nat) : Int)), (15, .str nm), (16, .ptr b16 0), (17, .int .i64 (m : Int)), (22, .sl (As.map eAcr) p.2.2.2.2.2.2.2.2 .no), (23, .int .i64 ((As.length : Nat) : Int)), (24, .int .i64 ((i : Nat) : Int)), (100, .sl (b.2.1.1.map eNm) b.2.1.2 .no), (101, .int .i64 ((b.2.1.1.length : Nat) : Int)), (102, .int .i64 ((k : Nat) : Int))] f' ∧ G' = hset B7 b16 (.vars [.int .i64 (if a.2.1.1[m] = nm then (m : Int) else c), .int .i64 0, .int .i64 0, .str [], .sl [] true .full])) ?_ ?_
          · refine aw_block ?_  -- 7
            refine aw_sr rfl ?_  -- r25 @picks.go:501
            simp only [go_sem, reduceIte, Nat.reduceEqDiff, Nat.reduceAdd, Nat.reduceMul, Nat.reduceSub, Nat.reduceLeDiff, Nat.reduceLT, reduceCtorEq, g9, getD_map hml, eNm, List.length_map]
            refine ⟨⟨by omega, by omega, wid_eNm' _⟩, ?_⟩
            refine aw_if rfl (fun h => ?_) (fun h => ?_)
            · have heq : a.2.1.1[m] = nm := by simpa using h
              refine aw_rg rfl ?_  -- r26 @picks.go:502
              simp only [go_sem, reduceIte, Nat.reduceEqDiff, Nat.reduceAdd, Nat.reduceMul, Nat.reduceSub, Nat.reduceLeDiff, Nat.reduceLT, reduceCtorEq, g16]
              refine ⟨(by repeat' first | exact rfl | exact trivial | refine And.intro ?_ ?_), ?_⟩
              rw [if_pos heq, ← hHc, hset_hset]
            · have hne : ¬ a.2.1.1[m] = nm := by simpa using h
              refine aw_skip ⟨(by repeat' first | exact rfl | exact trivial | refine And.intro ?_ ?_), ?_⟩
              rw [if_neg hne, hHc]
          intro f' G' ⟨hf, hg⟩
          rw [hg]
          refine AW.of_fsub hf ?_
          clear hf hg
          refine aw_rg rfl ?_  -- r24 @picks.go:500
          simp only [go_sem, reduceIte, Nat.reduceEqDiff, Nat.reduceAdd, Nat.reduceMul, Nat.reduceSub, Nat.reduceLeDiff, Nat.reduceLT, reduceCtorEq, wrap64 (show -9223372036854775808 ≤ (m : Int) - 1 by omega) (show (m : Int) - 1 ≤ 9223372036854775807 by omega)]
          refine ⟨⟨(m, if a.2.1.1[m] = nm then (m : Int) else c), by simp only; omega, hst⟩, by simp only; omega, ?_, sub_rfl⟩
          simp only [go_sem, reduceIte, Nat.reduceEqDiff, Nat.reduceAdd, Nat.reduceMul, Nat.reduceSub, Nat.reduceLeDiff, Nat.reduceLT, reduceCtorEq]
      intro f' G' ⟨c, hfr, hf, hg⟩
      rw [hg]
      refine AW.of_fsub hf ?_
      clear hf hg
      generalize hHc : hset B7 b16 (.vars [.int .i64 c, .int .i64 0, .int .i64 0, .str [], .sl [] true .full]) = Hc
      have g2 := hset_keep (x := (.vars [.int .i64 c, .int .i64 0, .int .i64 0, .str [], .sl [] true .full])) l2 q2
      rw [hHc] at g2
      have g3 := hset_keep (x := (.vars [.int .i64 c, .int .i64 0, .int .i64 0, .str [], .sl [] true .full])) l3 q3
      rw [hHc] at g3
      have g4 := hset_keep (x := (.vars [.int .i64 c, .int .i64 0, .int .i64 0, .str [], .sl [] true .full])) l4 q4
      rw [hHc] at g4
      have g9 := hset_keep (x := (.vars [.int .i64 c, .int .i64 0, .int .i64 0, .str [], .sl [] true .full])) l9 q9
      rw [hHc] at g9
      have g11 := hset_keep (x := (.vars [.int .i64 c, .int .i64 0, .int .i64 0, .str [], .sl [] true .full])) l11 q11
      rw [hHc] at g11
      have g12 := hset_keep (x := (.vars [.int .i64 c, .int .i64 0, .int .i64 0, .str [], .sl [] true .full])) l12 q12
      rw [hHc] at g12
      have g98 := hset_keep (x := (.vars [.int .i64 c, .int .i64 0, .int .i64 0, .str [], .sl [] true .full])) l98 q98
      rw [hHc] at g98
      have g16 : hget Hc b16 = some (.vars [.int .i64 c, .int .i64 0, .int .i64 0, .str [], .sl [] true .full]) := by rw [← hHc]; exact hget_hset_self h16
      have gr5 : Rm G Hc 5 t := by rw [← hHc]; exact hr5.hset h16 (fun _ _ e => by cases e)
      have grw : Rm G Hc 4 tw := by rw [← hHc]; exact hrw.hset h16 (fun _ _ e => by cases e)
      have gs : Sub G Hc := by rw [← hHc]; exact sub_hset_fresh c16 hs5'
      have gk : KeepV b12 B6 Hc := by rw [← hHc]; exact hk50.set3 hb16 hk5
      clear hHc
      have hfE2 := hfE
      unfold fieldF at hfE2
      refine aw_mid (fun f' G' => r.2 = 0 ∧ Rm G G' 5 t ∧ Rm G G' 4 tw ∧ Sub G G' ∧ KeepV b12 B6 G' ∧ hget G' b98 = some (.map (US.map kvI)) ∧ hget G' b12 = some (.vars [.str a.1, .int .i64 a.2.1.1.length, .sl (((L.take k).map fun x => (fldG p q a x).1).map eFd) (L.take k).isEmpty t, .sl [] true .full]) ∧ (∃ tg, hget G' b16 = some (.vars [.int .i64 r.1.1, .int .i64 r.1.2.kind, .int .i64 r.1.2.num, .str r.1.2.text, .sl (r.1.2.args.map eVal) r.1.2.nl tg])) ∧
        FSub [(2, .ptr b2 0), (3, .ptr b3 0), (4, .ptr b4 0), (6, .ptr b6 0), (7, .func (.func 123) [] []), (9, .ptr b9 0), (11, .ptr b11 0), (12, .ptr b12 0), (13, .map b98), (16, .ptr b16 0), (22, .sl (As.map eAcr) p.2.2.2.2.2.2.2.2 .no), (23, .int .i64 ((As.length : Nat) : Int)), (24, .int .i64 ((i : Nat) : Int)), (100, .sl (b.2.1.1.map eNm) b.2.1.2 .no), (101, .int .i64 ((b.2.1.1.length : Nat) : Int)), (102, .int .i64 ((k : Nat) : Int))] f') ?_ ?_
      · refine aw_sr rfl ?_  -- r27 @picks.go:505
        simp only [go_sem, reduceIte, Nat.reduceEqDiff, Nat.reduceAdd, Nat.reduceMul, Nat.reduceSub, Nat.reduceLeDiff, Nat.reduceLT, reduceCtorEq, g16]
        rcases hfr.all with ⟨e1, e2⟩ | ⟨j, hj, e1, e2⟩
        · rw [e2] at hfE2
          simp only [newF] at hfE2
          have hFq := q_ShapeFirst q hq4 b.2.2.1.1[k] obt
          rw [show (fun n => firstR q n [] b.2.2.1.1[k]) = fun n => firstP q n b.2.2.1.1[k] from funext fun n => (first_same q n _ [] _ rfl).symm] at hFq
          subst e1
          refine aw_if rfl (fun h => ?_) (fun h => absurd h (by decide))
          generalize (leastF fun n => firstP q n b.2.2.1.1[k]) = lf at hFq hfE2
          obtain ⟨lv, le⟩ := lf
          simp only [e29, leastV, cV] at hFq
          refine aw_srd [(0,true),(1,true),(2,true),(3,true),(4,true),(5,true),(6,true),(7,true),(8,true),(9,true),(10,false),(11,false),(12,true)] mixed rfl (by kernel_rfl) ?_  -- r28 @picks.go:506
          simp only [go_sem, reduceIte, Nat.reduceEqDiff, Nat.reduceAdd, Nat.reduceMul, Nat.reduceSub, Nat.reduceLeDiff, Nat.reduceLT, reduceCtorEq, g3, g11, getD_map hi2, eTyp_eq, cTyp]
          refine ⟨⟨by omega, by omega, wid_eTyp _⟩, ?_⟩
          refine goQ_by hFq ?_
          simp only [go_sem, reduceIte, Nat.reduceEqDiff, Nat.reduceAdd, Nat.reduceMul, Nat.reduceSub, Nat.reduceLeDiff, Nat.reduceLT, reduceCtorEq, g3, g11]
          intro b18 hb18
          refine aw_box1 hb18 fun B8 hs8 h18 => ?_
          have g4 := hs8 _ _ g4
          have g16 := hs8 _ _ g16
          have gs := sub_trans gs hs8
          refine aw_seq fun K10 hK10 => ?_
          refine aw_sr rfl ?_  -- r29 @picks.go:507
          simp only [go_sem, reduceIte, Nat.reduceEqDiff, Nat.reduceAdd, Nat.reduceMul, Nat.reduceSub, Nat.reduceLeDiff, Nat.reduceLT, reduceCtorEq]
          refine aw_if rfl (fun h => ?_) (fun h => ?_)
          · have hz : ¬ le = 0 := by simpa using h
            rw [if_neg hz] at hfE2
            refine aw_sr rfl ?_  -- r30 @picks.go:508
            simp only [go_sem, reduceIte, Nat.reduceEqDiff, Nat.reduceAdd, Nat.reduceMul, Nat.reduceSub, Nat.reduceLeDiff, Nat.reduceLT, reduceCtorEq, g4]
            refine goA_q (q_rNo 8) ?_
            simp only [go_sem, reduceIte, Nat.reduceEqDiff, Nat.reduceAdd, Nat.reduceMul, Nat.reduceSub, Nat.reduceLeDiff, Nat.reduceLT, reduceCtorEq, g4]
            refine aw_ret ⟨trivial, ?_⟩
            simp only [go_sem, reduceIte, Nat.reduceEqDiff, Nat.reduceAdd, Nat.reduceMul, Nat.reduceSub, Nat.reduceLeDiff, Nat.reduceLT, reduceCtorEq, resL, resOf, hget_hset_self g4]
            refine ⟨_, rfl, ?_, sub_hset_fresh c4 gs⟩
            rw [hErL 8 (by rw [hfE2]) (by decide)]
            exact Vle.tupL (.cons (Vle.aggL (by repeat (first | exact .nil | refine .cons (Vle.refl _) ?_ | refine .cons Vle.untag ?_ | refine .cons (Vle.aggL ?_) ?_ | refine .cons (Vle.slE ?_) ?_))) (.cons (Vle.refl _) .nil))
          have hz : le = 0 := by simpa using h
          rw [if_pos hz] at hfE2
          refine aw_skip (hK10 _ _ ?_)
          refine aw_rg rfl ?_  -- r31 @picks.go:510
          simp only [go_sem, reduceIte, Nat.reduceEqDiff, Nat.reduceAdd, Nat.reduceMul, Nat.reduceSub, Nat.reduceLeDiff, Nat.reduceLT, reduceCtorEq, g16, h18]
          rw [hfE2]
          refine ⟨rfl, (gr5.sub hs8).hset g16 (fun _ _ e => by cases e), (grw.sub hs8).hset g16 (fun _ _ e => by cases e), sub_hset_fresh c16 gs, hk50.set3 hb16 (gk.sub hs8), hset_keep (hs8 _ _ g98) q98, hset_keep (hs8 _ _ g12) q12, ⟨_, hget_hset_self g16⟩, (by repeat' first | exact rfl | exact trivial | refine And.intro ?_ ?_)⟩
        · rw [e2] at hfE2
          have hj2 : j < a.2.2.1.1.length := by omega
          have hgd : a.2.2.1.1.getD j zTyp = a.2.2.1.1[j] := by rw [List.getD_eq_getElem?_getD, List.getElem?_eq_getElem hj2]; rfl
          simp only [hgd] at hfE2
          subst e1
          have hSf := q_rShapeSame hp4 hq4 (oa.2.2.1.2.2 _ (List.getElem_mem hj2)) (b := b.2.2.1.1[k])
          simp only [e29] at hSf
          refine aw_if rfl (fun h => absurd h (by simp)) (fun h => ?_)
          refine aw_srd [(0,true),(1,true),(2,true),(3,true),(4,true),(5,true),(6,true),(7,true),(8,true),(9,true),(10,true),(11,true),(12,true),(13,true),(14,true)] mixed rfl (by kernel_rfl) ?_  -- r32 @picks.go:511
          simp only [go_sem, reduceIte, Nat.reduceEqDiff, Nat.reduceAdd, Nat.reduceMul, Nat.reduceSub, Nat.reduceLeDiff, Nat.reduceLT, reduceCtorEq, g2, g3, g9, g11, g16, getD_map hi2, getD_map hj2, eTyp_eq, cTyp]
          refine ⟨⟨by omega, by omega, wid_eTyp _⟩, ⟨by omega, by omega, wid_eTyp _⟩, ?_⟩
          refine goQ_by hSf ?_
          simp only [go_sem, reduceIte, Nat.reduceEqDiff, Nat.reduceAdd, Nat.reduceMul, Nat.reduceSub, Nat.reduceLeDiff, Nat.reduceLT, reduceCtorEq]
          cases hsf : sameF (big p q) [] [] a.2.2.1.1[j] b.2.2.1.1[k] with
          | false =>
            rw [if_neg (by rw [hsf]; simp)] at hfE2
            refine aw_if rfl (fun h => ?_) (fun h => by cases h)
            refine aw_sr rfl ?_  -- r33 @picks.go:512
            simp only [go_sem, reduceIte, Nat.reduceEqDiff, Nat.reduceAdd, Nat.reduceMul, Nat.reduceSub, Nat.reduceLeDiff, Nat.reduceLT, reduceCtorEq, g4]
            refine goA_q (q_rNo 12) ?_
            simp only [go_sem, reduceIte, Nat.reduceEqDiff, Nat.reduceAdd, Nat.reduceMul, Nat.reduceSub, Nat.reduceLeDiff, Nat.reduceLT, reduceCtorEq, g4]
            refine aw_ret ⟨trivial, ?_⟩
            simp only [go_sem, reduceIte, Nat.reduceEqDiff, Nat.reduceAdd, Nat.reduceMul, Nat.reduceSub, Nat.reduceLeDiff, Nat.reduceLT, reduceCtorEq, resL, resOf, hget_hset_self g4]
            refine ⟨_, rfl, ?_, sub_hset_fresh c4 gs⟩
            rw [hErL 12 (by rw [hfE2]) (by decide)]
            exact Vle.tupL (.cons (Vle.aggL (by repeat (first | exact .nil | refine .cons (Vle.refl _) ?_ | refine .cons Vle.untag ?_ | refine .cons (Vle.aggL ?_) ?_ | refine .cons (Vle.slE ?_) ?_))) (.cons (Vle.refl _) .nil))
          | true =>
          rw [if_pos hsf] at hfE2
          refine aw_if rfl (fun h => by cases h) (fun h => ?_)
          refine aw_skip ?_
          rw [hfE2]
          exact ⟨rfl, gr5, grw, gs, gk, g98, g12, ⟨_, g16⟩, (by repeat' first | exact rfl | exact trivial | refine And.intro ?_ ?_)⟩
      clear g2 g3 g4 g9 g11 g12 g98 g16 gr5 grw gs gk
      intro f' Hd ⟨hr0, gr5, grw, gs, gk, g98, g12, ⟨tg, g16⟩, hf⟩
      refine AW.of_fsub hf ?_
      clear hf
      obtain ⟨rr, hpf, hpp⟩ := put_I r.1.1 US
      refine AW.hle (ds := eFd r.1) g16 (by repeat (first | exact .nil | refine .cons (Vle.refl _) ?_ | refine .cons Vle.untag ?_ | refine .cons (Vle.aggL ?_) ?_ | refine .cons (Vle.slE ?_) ?_)) ?_
      generalize hHn : hset Hd b16 _ = Hn
      obtain ⟨x16, hkn, hGn, hRn⟩ := hset_facts hHn g16
      replace g98 := hkn _ _ g98 q98
      replace g12 := hkn _ _ g12 q12
      replace gk : KeepV b12 B6 Hn := by rw [← hHn]; exact hk50.set3 hb16 gk
      replace gr5 := hRn _ _ _ (fun _ _ q => by cases q) gr5
      replace grw := hRn _ _ _ (fun _ _ q => by cases q) grw
      replace gs := hGn _ c16 gs
      clear g16 hHn hkn hGn hRn
      have g16 := x16
      simp only [eFd] at g16
      refine aw_sr rfl ?_  -- r34 @picks.go:514
      simp only [go_sem, reduceIte, Nat.reduceEqDiff, Nat.reduceAdd, Nat.reduceMul, Nat.reduceSub, Nat.reduceLeDiff, Nat.reduceLT, reduceCtorEq, g16, g98, hpf, hpp, ik, true_and]
      generalize hHm : hset Hn b98 _ = Hm
      obtain ⟨x98, hkm, hGm, hRm⟩ := hset_facts hHm g98
      replace g16 := hkm _ _ g16 (fun e => q98 e.symm)
      replace g12 := hkm _ _ g12 m98
      replace gk : KeepV b12 B6 Hm := by rw [← hHm]; exact gk.setm g98 (fun _ e => by cases e)
      replace gr5 := hRm _ _ _ (fun _ _ q => by cases q) gr5
      replace grw := hRm _ _ _ (fun _ _ q => by cases q) grw
      replace gs := hGm _ c98 gs
      refine aw_rg rfl ?_  -- r35 @picks.go:515
      simp only [go_sem, reduceIte, Nat.reduceEqDiff, Nat.reduceAdd, Nat.reduceMul, Nat.reduceSub, Nat.reduceLeDiff, Nat.reduceLT, reduceCtorEq, g12, g16]
      refine goP_rm (G := G) gr5 gs ⟨rfl, rfl, by decide, wid_map (g := eFd) (fun _ => rfl) _, wid_one rfl, by simp [sca, scalarV], by simp only [List.length_map, List.length_take, List.length_cons, List.length_nil]; omega, by simp only [List.length_map, List.length_take, List.length_cons, List.length_nil]; omega⟩ fun t8 H8 hr8 hs8 hg8 => ?_
      have k12 := hg8.vars g12
      have k98 := hg8.map x98
      obtain ⟨grw8, hdis8⟩ := hg8.2 _ _ _ grw hdis
      simp only [go_sem, reduceIte, Nat.reduceEqDiff, Nat.reduceAdd, Nat.reduceMul, Nat.reduceSub, Nat.reduceLeDiff, Nat.reduceLT, reduceCtorEq, k12]
      generalize hH9 : hset H8 b12 _ = H9
      obtain ⟨x12, hk9, hG, hR⟩ := hset_facts hH9 k12
      refine ⟨(insI US r.1.1, t8, H9), ⟨hR _ _ _ (fun _ _ q => by cases q) hr8, hR _ _ _ (fun _ _ q => by cases q) grw8, hdis8, hG _ c12 hs8, by rw [← hH9]; exact (gk.grow hg8).set, fun j hj hlt => ?_, hk9 _ _ k98 (fun e => m98 e.symm), fun x => ?_, ?_⟩, ?_, sub_rfl⟩
      · by_cases e : j = k
        · subst e; rw [hrE]; exact hr0
        · exact he5 j hj (by omega)
      · rw [mem_insI, hUS, htkL, List.map_append]
        simp only [List.map_cons, List.map_nil, hrE, List.mem_append, List.mem_singleton]
        constructor
        · rintro (⟨f, h1, h2⟩ | h)
          · exact ⟨f, .inl h1, h2⟩
          · exact ⟨_, .inr rfl, h.symm⟩
        · rintro ⟨f, h1 | h1, h2⟩
          · exact .inl ⟨f, h1, h2⟩
          · exact .inr (by rw [← h2, h1])
      · simp only
        rw [htkL, isE_snoc, List.map_append, List.map_append]
        simp only [List.map_cons, List.map_nil, hrE, eFd]
        simpa using x12
      · simp only [go_sem, reduceIte, Nat.reduceEqDiff, Nat.reduceAdd, Nat.reduceMul, Nat.reduceSub, Nat.reduceLeDiff, Nat.reduceLT, reduceCtorEq]
    intro ⟨US, t, H5⟩ ⟨hr5, hrw, hdis, hs5', hk5, he5, l98, hUS, l12⟩
    simp only at hr5 hrw hdis hs5' hk5 he5 l98 hUS l12 ⊢
    rw [← hL] at l12 hUS he5
    rw [List.take_length] at l12 hUS
    have hz0 : errF (fldG p q a) L = 0 := errF_none fun j hj => he5 j hj hj
    rw [if_pos hz0] at hM
    have hfl : fldL p q a b = L.map fun x => (fldG p q a x).1 := by rw [← hLd]; rfl
    rw [hfl] at hM
    generalize hF : (L.map fun x => (fldG p q a x).1) = F at hM l12 hUS
    have hFl : F.length = L.length := by rw [← hF, List.length_map]
    have hFe : L.isEmpty = F.isEmpty := by rw [← hF, List.isEmpty_map]
    rw [hFe] at l12
    have l9 := hk5 _ _ h9 m9
    refine hK7 _ _ ?_
    refine aw_seq fun K11 hK11 => ?_
    refine aw_sr rfl ?_  -- r37 @picks.go:517
    simp only [go_sem, reduceIte, Nat.reduceEqDiff, Nat.reduceAdd, Nat.reduceMul, Nat.reduceSub, Nat.reduceLeDiff, Nat.reduceLT, reduceCtorEq, l9]
    refine aw_range a.2.1.1.length (S := Tag × Heap) (fun _ _ => [(2, .ptr b2 0), (3, .ptr b3 0), (4, .ptr b4 0), (6, .ptr b6 0), (7, .func (.func 123) [] []), (12, .ptr b12 0), (13, .map b98), (22, .sl (As.map eAcr) p.2.2.2.2.2.2.2.2 .no), (23, .int .i64 ((As.length : Nat) : Int)), (24, .int .i64 ((i : Nat) : Int))]) (fun _ s => s.2)
      (fun k s => Rm G s.2 1 s.1 ∧ Rm G s.2 4 tw ∧ Dis s.1 tw ∧ Sub G s.2 ∧ KeepV b12 B6 s.2 ∧ hget s.2 b98 = some (.map (US.map kvI)) ∧
        hget s.2 b12 = some (.vars [.str a.1, .int .i64 a.2.1.1.length, .sl (F.map eFd) F.isEmpty t, .sl ((lostF k F).map mk.eN) (lostF k F).isEmpty s.1])) (.full, H5) (by omega) ?_ (fun _ _ h => h)
      ⟨Rm.start _ _ _, hrw, Dis.full' _, hs5', hk5, l98, l12⟩ rfl (fun _ _ => rfl) ?_ ?_ (by decide)
    · simp only [go_sem, reduceIte, Nat.reduceEqDiff, Nat.reduceAdd, Nat.reduceMul, Nat.reduceSub, Nat.reduceLeDiff, Nat.reduceLT, reduceCtorEq, Int.natCast_zero]
    · intro k ⟨t2, H6⟩ hka ⟨hr6, hrw6, hdis6, hs6', hk6, k98, k12⟩
      simp only at hr6 hrw6 hdis6 hs6' hk6 k98 k12 ⊢
      have hll := lostF_len k F
      have hnx := lostF_next k F
      have hlk := look_I (k : Int) US 0
      have hany : decide ((k : Int) ∈ US) = F.any fun f => decide (f.1 = (k : Int)) := by
        rw [Bool.eq_iff_iff, decide_eq_true_eq, hUS, List.any_eq_true]
        constructor
        · rintro ⟨f, h1, h2⟩; exact ⟨f, h1, decide_eq_true h2⟩
        · rintro ⟨f, h1, h2⟩; exact ⟨f, h1, of_decide_eq_true h2⟩
      refine aw_sr rfl ?_  -- r39 @picks.go:517
      simp only [go_sem, reduceIte, Nat.reduceEqDiff, Nat.reduceAdd, Nat.reduceMul, Nat.reduceSub, Nat.reduceLeDiff, Nat.reduceLT, reduceCtorEq]
      refine aw_sr rfl ?_  -- r40 @picks.go:518
      simp only [go_sem, reduceIte, Nat.reduceEqDiff, Nat.reduceAdd, Nat.reduceMul, Nat.reduceSub, Nat.reduceLeDiff, Nat.reduceLT, reduceCtorEq, k98, ↓hlk, ik]
      rw [hany]
      refine aw_if rfl (fun h => ?_) (fun h => ?_)
      · have hz : F.any (fun f => decide (f.1 = (k : Int))) = false := by simpa using h
        rw [if_neg (by rw [hz]; simp)] at hnx
        refine aw_rg rfl ?_  -- r41 @picks.go:519
        simp only [go_sem, reduceIte, Nat.reduceEqDiff, Nat.reduceAdd, Nat.reduceMul, Nat.reduceSub, Nat.reduceLeDiff, Nat.reduceLT, reduceCtorEq, k12]
        refine goP_rm (G := G) hr6 hs6' ⟨rfl, rfl, by decide, mk.wid_eN _, wid_one rfl, by simp [sca, scalarV], by simp only [List.length_map, List.length_cons, List.length_nil]; omega, by simp only [List.length_map, List.length_cons, List.length_nil]; omega⟩ fun t8 H8 hr8 hs8 hg8 => ?_
        have g12 := hg8.vars k12
        have g98 := hg8.map k98
        obtain ⟨grw8, hdis8⟩ := hg8.2 _ _ _ hrw6 hdis6
        simp only [go_sem, reduceIte, Nat.reduceEqDiff, Nat.reduceAdd, Nat.reduceMul, Nat.reduceSub, Nat.reduceLeDiff, Nat.reduceLT, reduceCtorEq, g12]
        generalize hH9 : hset H8 b12 _ = H9
        obtain ⟨x12, hk9, hG, hR⟩ := hset_facts hH9 g12
        refine ⟨(t8, H9), ⟨hR _ _ _ (fun _ _ q => by cases q) hr8, hR _ _ _ (fun _ _ q => by cases q) grw8, hdis8, hG _ c12 hs8, by rw [← hH9]; exact (hk6.grow hg8).set, hk9 _ _ g98 (fun e => m98 e.symm), ?_⟩, ?_, sub_rfl⟩
        · simp only
          rw [hnx, isE_snoc, List.map_append]
          simp only [List.map_cons, List.map_nil, mk.eN]
          simpa using x12
        · simp only [go_sem, reduceIte, Nat.reduceEqDiff, Nat.reduceAdd, Nat.reduceMul, Nat.reduceSub, Nat.reduceLeDiff, Nat.reduceLT, reduceCtorEq]
      · have hz : F.any (fun f => decide (f.1 = (k : Int))) = true := by simpa using h
        rw [if_pos hz, List.append_nil] at hnx
        refine aw_skip ⟨(t2, H6), ⟨hr6, hrw6, hdis6, hs6', hk6, k98, by simp only; rw [hnx]; exact k12⟩, ?_, sub_rfl⟩
        simp only [go_sem, reduceIte, Nat.reduceEqDiff, Nat.reduceAdd, Nat.reduceMul, Nat.reduceSub, Nat.reduceLeDiff, Nat.reduceLT, reduceCtorEq]
    intro ⟨t2, H6⟩ ⟨hr6, hrw6, hdis6, hs6', hk6, k98, k12⟩
    simp only at hr6 hrw6 hdis6 hs6' hk6 k98 k12 ⊢
    have k6 := hk6 _ _ j6 m6
    refine hK11 _ _ ?_
    refine AW.hle (ds := [.str a.1, .int .i64 a.2.1.1.length, .sl (F.map eFd) F.isEmpty .no, .sl ((lostF a.2.1.1.length F).map mk.eN) (lostF a.2.1.1.length F).isEmpty .no]) k12 (by repeat (first | exact .nil | refine .cons (Vle.refl _) ?_ | refine .cons Vle.untag ?_ | refine .cons (Vle.aggL ?_) ?_ | refine .cons (Vle.slE ?_) ?_)) ?_
    generalize hH7 : hset H6 b12 _ = H7
    obtain ⟨x12, hk9, hG, hR⟩ := hset_facts hH7 k12
    replace k6 := hk9 _ _ k6 m6
    have k4 := hk9 _ _ (hk6 _ _ j4 m4) m4
    have hk7 : KeepV b12 B6 H7 := by rw [← hH7]; exact hk6.set
    have hrw7 := hR _ _ _ (fun _ _ q => by cases q) hrw6
    have hs7' := hG _ c12 hs6'
    have hkO := hk.trans hs56 hk7 hb12
    refine aw_rg rfl ?_  -- r43 @picks.go:522
    simp only [go_sem, reduceIte, Nat.reduceEqDiff, Nat.reduceAdd, Nat.reduceMul, Nat.reduceSub, Nat.reduceLeDiff, Nat.reduceLT, reduceCtorEq, k6, x12]
    refine goP_rm (G := G) hrw7 hs7' ⟨rfl, rfl, by decide, wid_eMv' _, wid_one rfl, by simp [sca, scalarV], by simp only [List.length_map, List.length_take, List.length_cons, List.length_nil]; omega, by simp only [List.length_map, List.length_take, List.length_cons, List.length_nil]; omega⟩ fun t8 H8 hr8 hs8 hg8 => ?_
    have y6 := hg8.vars k6
    simp only [go_sem, reduceIte, Nat.reduceEqDiff, Nat.reduceAdd, Nat.reduceMul, Nat.reduceSub, Nat.reduceLeDiff, Nat.reduceLT, reduceCtorEq, y6]
    generalize hH9 : hset H8 b6 _ = H9
    obtain ⟨x6, hk9, hG, hR⟩ := hset_facts hH9 y6
    refine ⟨(t8, H9), ⟨hR _ _ _ (fun _ _ q => by cases q) hr8, hG _ c6 hs8, by rw [← hH9]; exact (hkO.grow hg8).set, fun j hj hlt => ?_, ?_⟩, ?_, sub_rfl⟩
    · by_cases e : j = i
      · subst e; rw [haa, ← hM]
      · exact he j hj (by omega)
    · simp only
      rw [htk, isE_snoc, List.map_append, List.map_append]
      simp only [List.map_cons, List.map_nil, ← hM, eMv]
      simpa using x6
    · simp only [go_sem, reduceIte, Nat.reduceEqDiff, Nat.reduceAdd, Nat.reduceMul, Nat.reduceSub, Nat.reduceLeDiff, Nat.reduceLT, reduceCtorEq]
  intro ⟨tw, H⟩ ⟨hr, hs, hk, he, j6⟩
  simp only at hr hs hk he j6 ⊢
  rw [List.take_length] at j6
  rw [if_pos (errF_none fun j hj => he j hj hj)] at hE
  have j4 := hk _ _ h4 n4
  refine hK1 _ _ ?_
  refine aw_sr rfl ?_  -- r45 @picks.go:524
  simp only [go_sem, reduceIte, Nat.reduceEqDiff, Nat.reduceAdd, Nat.reduceMul, Nat.reduceSub, Nat.reduceLeDiff, Nat.reduceLT, reduceCtorEq, j4, j6]
  refine aw_ret ⟨trivial, ?_⟩
  simp only [go_sem, reduceIte, Nat.reduceEqDiff, Nat.reduceAdd, Nat.reduceMul, Nat.reduceSub, Nat.reduceLeDiff, Nat.reduceLT, reduceCtorEq, resL, resOf, hget_hset_self j4]
  refine ⟨_, rfl, ?_, sub_hset_fresh c4 hs⟩
  rw [← hE]
  simp only [wayV, List.isEmpty_map]
  exact Vle.tupL (.cons (Vle.aggL (by repeat (first | exact .nil | refine .cons (Vle.refl _) ?_ | refine .cons Vle.untag ?_ | refine .cons (Vle.aggL ?_) ?_ | refine .cons (Vle.slE ?_) ?_))) (.cons (Vle.refl _) .nil))
end Go.Proofs.Ytclmcpbanaojfaa

/- RenewPlan: the law, over programs as data. -/
set_option linter.unusedSimpArgs false
set_option linter.unusedVariables false
namespace Go.Proofs.Ytclmcpbanaojfaa
open Go.Proofs.YtclmcpbanaojfaaV
open rp
open sm
set_option maxHeartbeats 4000000
set_option maxRecDepth 100000
namespace rp
theorem newF_ok (q : Prgm) (hq : o23 q.2.2.2.1) (t : Typ) (ht : OkTyp t) : OkVal (newF q t).1.2 := by
  unfold newF
  simp only
  split
  · exact okLeast fun n => okP q hq n t ht
  · exact okZ
theorem fieldF_ok (p q : Prgm) (hq : o23 q.2.2.2.1) (a : Acr) (n : N) (t : Typ) (ht : OkTyp t) : OkVal (fieldF p q a n t).1.2 := by
  unfold fieldF
  split
  · split
    · exact okZ
    · exact okZ
  · exact newF_ok q hq t ht
/-- What a comparison of moves asks. -/
def OkMv (m : rp.Mv) : Prop := (m.2.2.1.length : Int) ≤ 9223372036854775807 ∧ (m.2.2.2.length : Int) ≤ 9223372036854775807 ∧ ∀ f ∈ m.2.2.1, OkVal f.2
theorem zMv_ok : OkMv zMv := ⟨by decide, by decide, fun f h => by cases h⟩
theorem moveF_ok (p q : Prgm) (op : o29 p) (oq : o29 q) (a : Acr) (oa : o42 a) : OkMv (moveF p q a).1 := by
  have hq4 : o23 q.2.2.2.1 := oq.2.2.2.1
  have hqA : o27 q.2.2.2.2.2.2.2 := oq.2.2.2.2.2.2.2
  unfold moveF
  cases hac : acrF q a.1 with
  | none => exact zMv_ok
  | some b =>
    simp only
    have ob := hqA.2.2 _ (List.mem_of_find?_eq_some hac)
    have hbl : b.2.1.1.length ≤ 1048576 := ob.2.1.2.1
    have hal : a.2.1.1.length ≤ 1048576 := oa.2.1.2.1
    split
    · exact zMv_ok
    split
    · split
      · have hfl : (fldL p q a b).length ≤ 1048576 := by unfold fldL; rw [List.length_map, List.length_zip]; omega
        have hll := lostF_len a.2.1.1.length (fldL p q a b)
        refine ⟨by simp only; omega, by simp only; omega, fun f hf => ?_⟩
        obtain ⟨x, hx, rfl⟩ := List.mem_map.1 hf
        exact fieldF_ok p q hq4 a x.1 x.2 (ob.2.2.1.2.2 _ (List.of_mem_zip hx).2)
      · exact zMv_ok
    · exact zMv_ok
theorem wayF_ok (p q : Prgm) (op : o29 p) (oq : o29 q) : ((wayF p q).1.length : Int) ≤ 9223372036854775807 ∧ ∀ m ∈ (wayF p q).1, OkMv m := by
  have hpA : o27 p.2.2.2.2.2.2.2 := op.2.2.2.2.2.2.2
  have hpl : p.2.2.2.2.2.2.2.1.length ≤ 1048576 := hpA.2.1
  unfold wayF
  split
  · refine ⟨by simp only [List.length_map]; omega, fun m hm => ?_⟩
    obtain ⟨a, ha, rfl⟩ := List.mem_map.1 hm
    exact moveF_ok p q op oq a (hpA.2.2 a ha)
  · exact ⟨by show ((0 : Nat) : Int) ≤ _; decide, fun m h => by cases h⟩
def oneA : Acr := ([65], ([], true), ([], true), .mk 1 [] [] true, .mk 0 0 [] ([], true) ([], true) [] true [] true 0)
def oneP : Prgm := ([], 0, ([], true), ([], true), ([], true), ([], true), ([], true), ([oneA], false))
end rp
theorem q_EqTrueFd (F : FuncId) (xs : List rp.Fd) (n1 n2 : Bool) (t1 t2 : Tag) (hx : (xs.length : Int) ≤ 9223372036854775807) (hF : ∀ f ∈ xs, Quiet Try.prog F [.agg (eFd f), .agg (eFd f)] (.bool true)) :
    Quiet Try.prog 127 [.sl (xs.map eFd) n1 t1, .sl (xs.map eFd) n2 t2, .func (.func F) [] []] (.bool true) := by
  refine Quiet.weak fun G => ?_
  refine (a_EqualF F [] [] xs xs n1 n2 t1 t2 (fun _ H => Sub G H) (fun r H => r = true ∧ Sub G H) G hx (fun h => absurd rfl h) (fun _ => sub_rfl) (fun _ _ _ h1 h2 => sub_trans h1 h2) (fun i hi hj H hH => ?_) (fun H _ hH => ⟨rfl, hH⟩)).mono fun y H ⟨r, h1, h2, h3⟩ => ⟨by rw [h1, h2]; exact Vle.refl _, h3⟩
  refine (hF _ (List.getElem_mem hi) H).mono fun y H' ⟨h1, h2⟩ => ⟨true, h1, fun _ => by rw [h2]; exact hH, fun e => by cases e⟩
theorem q_EqTrueMv (F : FuncId) (xs : List rp.Mv) (n1 n2 : Bool) (t1 t2 : Tag) (hx : (xs.length : Int) ≤ 9223372036854775807) (hF : ∀ f ∈ xs, Quiet Try.prog F [.agg (eMv f), .agg (eMv f)] (.bool true)) :
    Quiet Try.prog 125 [.sl (xs.map eMv) n1 t1, .sl (xs.map eMv) n2 t2, .func (.func F) [] []] (.bool true) := by
  refine Quiet.weak fun G => ?_
  refine (a_EqualV F [] [] xs xs n1 n2 t1 t2 (fun _ H => Sub G H) (fun r H => r = true ∧ Sub G H) G hx (fun h => absurd rfl h) (fun _ => sub_rfl) (fun _ _ _ h1 h2 => sub_trans h1 h2) (fun i hi hj H hH => ?_) (fun H _ hH => ⟨rfl, hH⟩)).mono fun y H ⟨r, h1, h2, h3⟩ => ⟨by rw [h1, h2]; exact Vle.refl _, h3⟩
  refine (hF _ (List.getElem_mem hi) H).mono fun y H' ⟨h1, h2⟩ => ⟨true, h1, fun _ => by rw [h2]; exact hH, fun e => by cases e⟩
theorem q_sw11 (f : rp.Fd) (hf : OkVal f.2) : Quiet Try.prog 128 [.agg (eFd f), .agg (eFd f)] (.bool true) := by
  have hS := q_sameValue f.2 f.2 hf
  rw [sameV_refl] at hS
  simp only [cV] at hS
  refine Quiet.weak fun G => ?_
  refine acall_body (rs := [.tmp 4]) Try.func128 rfl rfl Try.ntmps128 (by kernel_rfl) (Nat.le_of_ble_eq_true rfl) ?_
  refine aw_sr rfl ?_  -- r0 @high.go:176
  simp only [go_sem, reduceIte, Nat.reduceEqDiff, Nat.reduceAdd, Nat.reduceMul, Nat.reduceSub, Nat.reduceLeDiff, Nat.reduceLT, reduceCtorEq, eFd]
  intro b2 hb2 b3 hb3
  refine aw_box2 hb2 hb3 fun B1 hs1 h2 h3 _ _ => ?_
  refine aw_sr rfl ?_  -- r1 @high.go:177
  simp only [go_sem, reduceIte, Nat.reduceEqDiff, Nat.reduceAdd, Nat.reduceMul, Nat.reduceSub, Nat.reduceLeDiff, Nat.reduceLT, reduceCtorEq, h2, h3]
  refine goH_q (fun hg => hS) ?_
  simp only [go_sem, reduceIte, Nat.reduceEqDiff, Nat.reduceAdd, Nat.reduceMul, Nat.reduceSub, Nat.reduceLeDiff, Nat.reduceLT, reduceCtorEq]
  refine aw_ret ⟨trivial, _, rfl, ?_, hs1⟩
  first | exact Vle.refl _ | (simp; exact Vle.refl _)
theorem q_sw1 (m : rp.Mv) (hm : OkMv m) : Quiet Try.prog 126 [.agg (eMv m), .agg (eMv m)] (.bool true) := by
  have hE := q_EqN m.2.2.2 m.2.2.2 m.2.2.2.isEmpty m.2.2.2.isEmpty .no .no hm.2.1
  rw [decide_eq_true rfl] at hE
  have hF := q_EqTrueFd 128 m.2.2.1 m.2.2.1.isEmpty m.2.2.1.isEmpty .no .no hm.1 fun f hf => q_sw11 f (hm.2.2 f hf)
  refine Quiet.weak fun G => ?_
  refine acall_body (rs := [.tmp 4]) Try.func126 rfl rfl Try.ntmps126 (by kernel_rfl) (Nat.le_of_ble_eq_true rfl) ?_
  refine aw_sr rfl ?_  -- r0 @high.go:175
  simp only [go_sem, reduceIte, Nat.reduceEqDiff, Nat.reduceAdd, Nat.reduceMul, Nat.reduceSub, Nat.reduceLeDiff, Nat.reduceLT, reduceCtorEq, eMv]
  intro b2 hb2 b3 hb3
  refine aw_box2 hb2 hb3 fun B1 hs1 h2 h3 _ _ => ?_
  refine aw_sr rfl ?_  -- r1 @high.go:176
  simp only [go_sem, reduceIte, Nat.reduceEqDiff, Nat.reduceAdd, Nat.reduceMul, Nat.reduceSub, Nat.reduceLeDiff, Nat.reduceLT, reduceCtorEq, h2, h3]
  refine goH_q (fun hg => hE) ?_
  simp only [go_sem, reduceIte, Nat.reduceEqDiff, Nat.reduceAdd, Nat.reduceMul, Nat.reduceSub, Nat.reduceLeDiff, Nat.reduceLT, reduceCtorEq, h2, h3]
  refine goH_q (fun hg => hF) ?_
  simp only [go_sem, reduceIte, Nat.reduceEqDiff, Nat.reduceAdd, Nat.reduceMul, Nat.reduceSub, Nat.reduceLeDiff, Nat.reduceLT, reduceCtorEq]
  refine aw_ret ⟨trivial, _, rfl, ?_, hs1⟩
  first | exact Vle.refl _ | (simp; exact Vle.refl _)
theorem q_sw (l : List rp.Mv) (nl : Bool) (hl : (l.length : Int) ≤ 9223372036854775807) (hm : ∀ m ∈ l, OkMv m) : Quiet Try.prog 73 [.agg [.sl (l.map eMv) nl .no], .agg [.sl (l.map eMv) nl .no]] (.bool true) := by
  have hF := q_EqTrueMv 126 l nl nl .no .no hl fun m h => q_sw1 m (hm m h)
  refine Quiet.weak fun G => ?_
  refine acall_body (rs := [.tmp 4]) Try.func73 rfl rfl Try.ntmps73 (by kernel_rfl) (Nat.le_of_ble_eq_true rfl) ?_
  refine aw_sr rfl ?_  -- r0 @high.go:174
  simp only [go_sem, reduceIte, Nat.reduceEqDiff, Nat.reduceAdd, Nat.reduceMul, Nat.reduceSub, Nat.reduceLeDiff, Nat.reduceLT, reduceCtorEq]
  intro b2 hb2 b3 hb3
  refine aw_box2 hb2 hb3 fun B1 hs1 h2 h3 _ _ => ?_
  refine aw_sr rfl ?_  -- r1 @high.go:175
  simp only [go_sem, reduceIte, Nat.reduceEqDiff, Nat.reduceAdd, Nat.reduceMul, Nat.reduceSub, Nat.reduceLeDiff, Nat.reduceLT, reduceCtorEq, h2, h3]
  refine goA_q hF ?_
  simp only [go_sem, reduceIte, Nat.reduceEqDiff, Nat.reduceAdd, Nat.reduceMul, Nat.reduceSub, Nat.reduceLeDiff, Nat.reduceLT, reduceCtorEq]
  exact aw_ret ⟨trivial, _, rfl, Vle.refl _, hs1⟩
theorem oneA_ok : o42 oneA := by
  refine ⟨by show ([65] : List UInt8).length ≤ bulk; decide, ⟨fun _ => rfl, by decide, fun s h => by cases h⟩, ⟨fun _ => rfl, by decide, fun s h => by cases h⟩, ⟨.mk (by decide) (by decide) (fun _ => rfl) (by decide) (fun a h => by cases h), by decide⟩, ⟨?_, by decide⟩⟩
  exact .mk (by decide) (by decide) (by decide) ⟨fun _ => rfl, by decide, fun s h => by cases h⟩ ⟨fun _ => rfl, by decide, fun s h => by cases h⟩ (fun _ => rfl) (by decide) (fun a h => by cases h) (fun _ => rfl) (by decide) (fun a h => by cases h) (fun a h => by cases h) (by decide)
theorem okS_nil {A : Type} {ok : A → Prop} : OkS ok (([], true) : List A × Bool) := ⟨fun _ => rfl, by show 0 ≤ bulk; decide, fun s h => by cases h⟩
theorem oneP_ok : o29 oneP :=
  ⟨by show ([] : List UInt8).length ≤ bulk; decide, by show IntKind.i64.min ≤ (0 : Int) ∧ (0 : Int) ≤ IntKind.i64.max; decide, okS_nil, okS_nil, okS_nil, okS_nil, okS_nil, ⟨fun h => (by cases h), by show 1 ≤ bulk; decide, fun s h => by
    have h : s ∈ [oneA] := h
    rw [List.mem_singleton] at h; subst h; exact oneA_ok⟩⟩
theorem oneP_le : VleLL
    [[V.str [65], V.sl [] true Tag.full, V.sl [] true Tag.full, V.int IntKind.i64 1, V.str [], V.sl [] true Tag.full,
        V.int IntKind.i64 0, V.int IntKind.i64 0, V.str [], V.sl [] true Tag.full, V.sl [] true Tag.full,
        V.sl [] true Tag.full, V.sl [] true Tag.full, V.int IntKind.i64 0]]
    (List.map eAcr oneP.2.2.2.2.2.2.2.1) := by
  refine .cons ?_ .nil
  repeat (first | exact .nil | refine .cons (Vle.refl _) ?_ | refine .cons Vle.untag ?_ | refine .cons (Vle.aggL ?_) ?_ | refine .cons (Vle.slE ?_) ?_)
theorem law0_RenewPlan (p q : Prgm) (q0 : o29 p) (q1 : o29 q) : Quiet Try.prog 9 [.agg (cPrg p), .agg (cPrg q)] (.bool true) := by
  have hps := q_ProgramSmall p q0
  have hqs := q_ProgramSmall q q1
  have hA := q_Plan oneP oneP oneP_ok oneP_ok
  rw [show wayF oneP oneP = ([([65], 0, [], [])], 0) by rfl] at hA
  have hX := q_Plan p q q0 q1
  have hY := q_rPlan p q q0 q1
  obtain ⟨w1, w2⟩ := wayF_ok p q q0 q1
  generalize wayF p q = w at hX hY w1 w2
  have hS := q_sw w.1 w.1.isEmpty w1 w2
  simp only [e29, wayV] at hX hY hps hqs
  refine Quiet.weak fun G => ?_
  refine acall_body (rs := [.tmp 4]) Try.func9 rfl rfl Try.ntmps9 (by kernel_rfl) (Nat.le_of_ble_eq_true rfl) ?_
  refine aw_sr rfl ?_  -- r0 @high.go:183
  simp only [go_sem, reduceIte, Nat.reduceEqDiff, Nat.reduceAdd, Nat.reduceMul, Nat.reduceSub, Nat.reduceLeDiff, Nat.reduceLT, reduceCtorEq]
  intro b2 hb2 b3 hb3
  refine aw_box2 hb2 hb3 fun B1 hs1 h2 h3 _ _ => ?_
  have hsB := hs1
  simp only [e29] at h2 h3
  refine aw_sr rfl ?_  -- r1 @high.go:184
  simp only [go_sem, reduceIte, Nat.reduceEqDiff, Nat.reduceAdd, Nat.reduceMul, Nat.reduceSub, Nat.reduceLeDiff, Nat.reduceLT, reduceCtorEq]
  intro b5 hb5
  refine aw_box1 hb5 fun B2 hs2 h5 => ?_
  replace h2 := hs2 _ _ h2
  replace h3 := hs2 _ _ h3
  replace hsB := sub_trans hsB hs2
  refine aw_seq fun K1 hK1 => ?_
  refine aw_sr rfl ?_  -- r2 @high.go:185
  simp only [go_sem, reduceIte, Nat.reduceEqDiff, Nat.reduceAdd, Nat.reduceMul, Nat.reduceSub, Nat.reduceLeDiff, Nat.reduceLT, reduceCtorEq, h5]
  refine goA_q (Quiet.args hA ?_) ?_
  · refine .cons (Vle.aggL ?_) (.cons (Vle.aggL ?_) .nil) <;> (repeat (first | exact .nil | exact oneP_le | refine .cons (Vle.refl _) ?_ | refine .cons Vle.untag ?_ | refine .cons (Vle.slE ?_) ?_))
  simp only [go_sem, reduceIte, Nat.reduceEqDiff, Nat.reduceAdd, Nat.reduceMul, Nat.reduceSub, Nat.reduceLeDiff, Nat.reduceLT, reduceCtorEq, wayV]
  intro b6 hb6
  refine aw_box1 hb6 fun B3 hs3 h6 => ?_
  replace h2 := hs3 _ _ h2
  replace h3 := hs3 _ _ h3
  replace hsB := sub_trans hsB hs3
  refine aw_sr rfl ?_  -- r3 @high.go:185
  simp only [go_sem, reduceIte, Nat.reduceEqDiff, Nat.reduceAdd, Nat.reduceMul, Nat.reduceSub, Nat.reduceLeDiff, Nat.reduceLT, reduceCtorEq, h6]
  refine aw_if rfl (fun h => by simp at h) (fun h => ?_)
  refine aw_skip (hK1 _ _ ?_)
  refine aw_seq fun K2 hK2 => ?_
  refine aw_sr rfl ?_  -- r5 @high.go:188
  simp only [go_sem, reduceIte, Nat.reduceEqDiff, Nat.reduceAdd, Nat.reduceMul, Nat.reduceSub, Nat.reduceLeDiff, Nat.reduceLT, reduceCtorEq, h2, h3]
  refine goA_qb hps fun x1 => ?_
  simp only [go_sem, reduceIte, Nat.reduceEqDiff, Nat.reduceAdd, Nat.reduceMul, Nat.reduceSub, Nat.reduceLeDiff, Nat.reduceLT, reduceCtorEq, h2, h3]
  refine goH_qb (fun hg => hqs) fun x2 => ?_
  simp only [go_sem, reduceIte, Nat.reduceEqDiff, Nat.reduceAdd, Nat.reduceMul, Nat.reduceSub, Nat.reduceLeDiff, Nat.reduceLT, reduceCtorEq]
  refine aw_if rfl (fun h => ?_) (fun h => ?_)
  · refine aw_sr rfl ?_  -- r6 @high.go:189
    simp only [go_sem, reduceIte, Nat.reduceEqDiff, Nat.reduceAdd, Nat.reduceMul, Nat.reduceSub, Nat.reduceLeDiff, Nat.reduceLT, reduceCtorEq]
    exact aw_ret ⟨trivial, _, rfl, Vle.refl _, hsB⟩
  refine aw_skip (hK2 _ _ ?_)
  refine aw_sr rfl ?_  -- r7 @high.go:191
  simp only [go_sem, reduceIte, Nat.reduceEqDiff, Nat.reduceAdd, Nat.reduceMul, Nat.reduceSub, Nat.reduceLeDiff, Nat.reduceLT, reduceCtorEq, h2, h3]
  refine goA_q hX ?_
  simp only [go_sem, reduceIte, Nat.reduceEqDiff, Nat.reduceAdd, Nat.reduceMul, Nat.reduceSub, Nat.reduceLeDiff, Nat.reduceLT, reduceCtorEq, h2, h3]
  intro b8 hb8
  refine aw_box1 hb8 fun B4 hs4 h8 => ?_
  replace h2 := hs4 _ _ h2
  replace h3 := hs4 _ _ h3
  replace hsB := sub_trans hsB hs4
  refine aw_sr rfl ?_  -- r8 @high.go:192
  simp only [go_sem, reduceIte, Nat.reduceEqDiff, Nat.reduceAdd, Nat.reduceMul, Nat.reduceSub, Nat.reduceLeDiff, Nat.reduceLT, reduceCtorEq, h2, h3]
  refine goA_q hY ?_
  simp only [go_sem, reduceIte, Nat.reduceEqDiff, Nat.reduceAdd, Nat.reduceMul, Nat.reduceSub, Nat.reduceLeDiff, Nat.reduceLT, reduceCtorEq, h2, h3]
  intro b10 hb10
  refine aw_box1 hb10 fun B5 hs5 h10 => ?_
  replace h8 := hs5 _ _ h8
  replace hsB := sub_trans hsB hs5
  refine aw_sr rfl ?_  -- r9 @high.go:193
  simp only [go_sem, reduceIte, Nat.reduceEqDiff, Nat.reduceAdd, Nat.reduceMul, Nat.reduceSub, Nat.reduceLeDiff, Nat.reduceLT, reduceCtorEq, h8, h10]
  refine goA_q hS ?_
  simp only [go_sem, reduceIte, Nat.reduceEqDiff, Nat.reduceAdd, Nat.reduceMul, Nat.reduceSub, Nat.reduceLeDiff, Nat.reduceLT, reduceCtorEq]
  refine aw_ret ⟨trivial, _, rfl, ?_, hsB⟩
  first | exact Vle.refl _ | (simp; exact Vle.refl _)
end Go.Proofs.Ytclmcpbanaojfaa

/- RenewPlan: the law, over its arguments as data. -/
namespace Go.Proofs.Ytclmcpbanaojfaa.renewPlan
open Go.Proofs.YtclmcpbanaojfaaV
set_option linter.unusedVariables false
set_option maxRecDepth 100000
theorem law (p q : Prgm) (q0 : o29 p) (q1 : o29 q) : Quiet Try.prog 9 [.agg (e29 p), .agg (e29 q)] (.bool true) := law0_RenewPlan p q q0 q1
end Go.Proofs.Ytclmcpbanaojfaa.renewPlan

/- 'roadlaw5.RenewPlan' returns true for every input whose bulk is at most 1048576 values and letters (the statement's own bound): . No other condition. -/
set_option linter.unusedSimpArgs false
set_option linter.unusedVariables false
set_option maxRecDepth 100000
namespace Go.Proofs.Ytclmcpbanaojfaa.renewPlan
open Go.ChangeShapes Go.WideShapes Go.ChangeAt Go.RowKit
open Go.Proofs.YtclmcpbanaojfaaV
theorem own : ownKnob Try.prog.godebug = none := by kernel_rfl
theorem laidOut : laidOutB Try.prog = true := by kernel_rfl
theorem uBool : Try.prog.underlying 4 = some .bool := by kernel_rfl
theorem typed {xs : List V} (h : TyAll Try.prog [29, 29] xs) (hs : vszL xs ≤ 1048576) : Quiet Try.prog 9 xs (.bool true) := by
  obtain ⟨x0, x1, rfl, q0, q1⟩ := args h hs
  exact law x0 x1 q0 q1
theorem contract (H : Type) (enc : TypeId × Value → H) (W : World) (base : Nat) (args : Array Value) (ds gs : List (DataW H)) (before : List MemPlace)
    (hval : ∀ (j : Nat) t v, Try.f9.params[j]? = some t → args[j]? = some v → Value.okWide Try.prog W .any base t v)
    (hW : DataW.Whole enc Try.prog Try.f9.params.toList Rows.renewPlanSpec.vars false W args.toList ds gs before) (hk : Rows.uptoSmall H (ds ++ gs) = true) :
    Calls Try.prog 9 args W fun e W' => ∃ v, e = .returned v ∧ Rows.renewPlanSpec.post enc Try.prog Try.f9 false true false false W args v W' := by
  have hW' := hW
  obtain ⟨p, q, hA0, hV, rfl, hfz, hnd⟩ := hW
  have hA : DataW.TrodAll enc Try.prog W 0 (fun _ => true) true Try.f9.params.toList args.toList ds p := hA0
  obtain ⟨rfl, rfl⟩ := trodVars_none hV
  rw [Try.params9] at hA hval
  obtain ⟨xs, hr, ht, hs⟩ := trod_all (fun j t v hj hv => hval j t v (by simpa using hj) (by simpa using hv)) hA
  have hk' : Rows.uptoBulkAll (ds ++ []) ≤ 1048576 := of_decide_eq_true hk
  rw [List.append_nil] at hk'
  have hq := typed ht (Nat.le_trans hs hk')
  refine (ACall.calls (hq []) Try.func9 rfl rfl hr).mono fun e W' ⟨v, he, bel, M', x, G', hx, hxe, _⟩ => ?_
  subst hxe
  have hv := hx.bool_inv
  subst he hv
  have hst := trod_stays laidOut bel (by kernel_rfl) hA
  obtain ⟨v0, vs0, d0, ds0, p0, q0, hargs, rfl, rfl, h0, r0⟩ := trodAll_cons hA
  obtain ⟨v1, vs1, d1, ds1, p1, q1, rfl, rfl, rfl, h1, r1⟩ := trodAll_cons r0
  obtain ⟨rfl, rfl, rfl⟩ := trodAll_nil r1
  exact ⟨_, rfl, _, _, _, [], _, [], hW', trodAll_mk1 (shut_bool uBool _), hst, rfl, bel.frame _, fun h => by cases h⟩
set_option maxRecDepth 100000 in
theorem lifted (os : Os) (started : os.Started) (H : Type) (enc : TypeId × Value → H) (F : Stop.Interp) :
    ReturnsInHanded {} Try.checked os 9 .any ((Rows.OpenSpec.upto Rows.renewPlanSpec).pre6 enc Try.prog Try.f9 Rows.renewPlanUptoRow.domain false) (((Rows.OpenSpec.upto Rows.renewPlanSpec).at F).post enc Try.prog Try.f9 false true false false) := by
  refine returnsInHanded_of_cond (C := Try.checked) (s := Rows.OpenSpec.upto Rows.renewPlanSpec) (k := Rows.uptoSmall) rfl own started (by kernel_rfl) Try.func9
    (OpenSpec.witness (enc := enc) (C := Try.checked) (s := Rows.OpenSpec.upto Rows.renewPlanSpec) (k := Rows.uptoSmall) rfl false ⟨#[], #[(.agg #[(.string ⟨#[]⟩), (.int .i64 0), (.slice none 0 0), (.slice none 0 0), (.slice none 0 0), (.slice none 0 0), (.slice none 0 0), (.slice none 0 0)]), (.agg #[(.string ⟨#[]⟩), (.int .i64 0), (.slice none 0 0), (.slice none 0 0), (.slice none 0 0), (.slice none 0 0), (.slice none 0 0), (.slice none 0 0)])], []⟩ 8 (by kernel_rfl) (by kernel_rfl) (by kernel_rfl)
      (x := ([(.agg [(.lit (.string [])), (.lit (.int .i64 0)), .nil, .nil, .nil, .nil, .nil, .nil]), (.agg [(.lit (.string [])), (.lit (.int .i64 0)), .nil, .nil, .nil, .nil, .nil, .nil])], [], [])) (by kernel_rfl) rfl (by kernel_rfl)) ?_
  intro W base args ds gs before hval hW _ hk _
  exact contract H enc W base args ds gs before hval hW hk
set_option maxHeartbeats 4000000 in
theorem joined : joinedFacts Try.pinned.checked.prog 9 Try.f9 (Rows.OpenSpec.upto Rows.renewPlanSpec).bare Rows.renewPlanUptoRow = true := by
  unfold joinedFacts
  simp only [Bool.and_eq_true]
  repeat' apply And.intro
  all_goals (as_aux_lemma => kernel_rfl)
theorem over : Rows.renewPlanUptoRow.holds Try.pinned (Rows.OpenSpec.upto Rows.renewPlanSpec) :=
  OpenClaim.holds_of_cond 9 Try.f9 rfl rfl rfl rfl rfl rfl rfl ⟨rfl, rfl, rfl, rfl, rfl⟩ rfl rfl rfl rfl rfl (by kernel_rfl) Try.func9 joined
    (of_decide_eq_true (by kernel_rfl)) (by unfold Func.isWrapper; first | (rw [if_pos (by decide +kernel)]; kernel_rfl) | (rw [if_neg (by decide +kernel)]; exact ⟨rfl, rfl⟩))
    (fun os started H enc _ F => lifted os started H enc F)
theorem proved : Rows.RenewPlanUptoSaid := over
#print axioms proved
end Go.Proofs.Ytclmcpbanaojfaa.renewPlan
