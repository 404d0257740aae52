/-
  Regions that draw their order: one walk serves every order.
-/
import Derived.Test.YtomjghlaoncpbaaVl
namespace Go.Proofs.YtomjghlaoncpbaaV
open Go.RowKit
set_option linter.unusedVariables false
set_option linter.unusedSimpArgs false

/-- An operation as an order meets it: 'q': it is known to answer without writing. -/
def sem (P : Program) (q : Bool) (f : FF) (G : Heap) (op : Op) (K : Kv) : Prop := if q then ∃ x, QEv P f G op x ∧ K x G else stepV P f G op K
/-- The same under a guard. -/
def gs (P : Program) (q g : Bool) (f : FF) (G : Heap) (op : Op) (K : Kv) : Prop := if q then ∃ x, (g = true → QEv P (unF g f) G op x) ∧ K (.opt g x) G else gstep P g f G op K
def gsem (P : Program) (ops : Array Oper) (q : Bool) (o : Oper) (f : FF) (G : Heap) (K : Kv) : Prop :=
  match o.guard with
  | none => sem P q f G o.op K
  | some (j, want) => match (ops[j]?).bind (·.dst) with
    | some d => match (f d).bind (gcond want) with
      | some g => gs P q g f G o.op K
      | none => False
    | none => False
abbrev Kq := FF → Heap → Prop
def aOp (P : Program) (ops : Array Oper) (qs : Nat → Bool) (i : Nat) (K : Kq) (f : FF) (G : Heap) : Prop :=
  match ops[i]? with
  | none => K f G
  | some o => gsem P ops (qs i) o f G (fun x G' => K (upd f o.dst x) G')
def anyA (P : Program) (ops : Array Oper) (qs : Nat → Bool) (K : Kq) : Nat → Array Bool → FF → Heap → Prop
  | 0, listed, f, G => Region.ready .any ops listed = [] ∧ K f G
  | n + 1, listed, f, G => (Region.ready .any ops listed = [] → K f G) ∧ ∀ i ∈ Region.ready .any ops listed, aOp P ops qs i (anyA P ops qs K n (listed.setIfInBounds i true)) f G

section
variable {P : Program} {ops : Array Oper} {qs : Nat → Bool} {N : Nat}
theorem sem_step {q : Bool} {f : FF} {G : Heap} {op : Op} {K : Kv} (h : sem P q f G op K) : stepV P f G op K := by
  unfold sem at h
  split at h
  · obtain ⟨x, h1, h2⟩ := h; exact h1.step h2
  · exact h
theorem gs_true {q : Bool} {f : FF} {G : Heap} {op : Op} {K : Kv} (h : gs P q true f G op K) : stepV P (unF true f) G op (fun x G => K (.opt true x) G) := by
  unfold gs at h
  split at h
  · obtain ⟨x, h1, h2⟩ := h; exact (h1 rfl).step h2
  · exact gstep_true h
theorem gs_false {q : Bool} {f : FF} {G : Heap} {op : Op} {K : Kv} (h : gs P q false f G op K) : ∃ x, K (.opt false x) G := by
  unfold gs at h
  split at h
  · obtain ⟨x, h1, h2⟩ := h; exact ⟨x, h2⟩
  · exact gstep_false h
theorem anyA_ok {E : Env} {Q' : Exit → Act → World → Prop} {K : Kq} (ha : ∀ (i : Nat) (o : Oper), ops[i]? = some o → dstOk N o = true) : ∀ {n : Nat} {listed : Array Bool} {f : FF} {G : Heap} {M : PM} {w : World} {a : Act},
    anyA P ops qs K n listed f G → Mem E M G w → RepG M f a.tmps → a.tmps.size = N → a.defers = [] →
    (∀ M' f' G' (a' : Act) w', M.le M' → Mem E M' G' w' → RepG M' f' a'.tmps → a'.tmps.size = N → a'.defers = [] → K f' G' → Q' .normal a' w') → wpAny P .any ops Q' n listed a w
  | 0, listed, f, G, M, w, a, h, hm, hf, hn, hd, hq => ⟨h.1, hq M f G a w M.le_refl hm hf hn hd h.2⟩
  | n + 1, listed, f, G, M, w, a, h, hm, hf, hn, hd, hq => by
    refine ⟨fun h0 => hq M f G a w M.le_refl hm hf hn hd (h.1 h0), fun i hi => ?_⟩
    have hop := h.2 i hi
    unfold aOp at hop
    unfold wpOp
    cases ho : ops[i]? with
    | none =>
      rw [ho] at hop
      exact anyA_ok ha hop hm hf hn hd hq
    | some o =>
      rw [ho] at hop
      simp only at hop ⊢
      have hdst := ha i o ho
      unfold gsem at hop
      cases hg : o.guard with
      | none =>
        rw [hg] at hop
        rw [if_pos (by simp [Region.wanted, hg])]
        exact .inl (stepV_ok (N := N) (sem_step hop) hm hf hf hn hd hdst fun M' x G' a' w' k1 k2 k3 k4 k5 k6 =>
          anyA_ok ha k6 k2 k3 k4 k5 fun M2 f2 G2 a2 w2 j1 j2 j3 j4 j5 j6 => hq M2 f2 G2 a2 w2 (PM.le_trans k1 j1) j2 j3 j4 j5 j6)
      | some jw =>
        obtain ⟨j, want⟩ := jw
        rw [hg] at hop
        simp only at hop
        split at hop
        · rename_i d hgt
          split at hop
          · rename_i g hv
            have hw : Region.wanted o (yielded ops a.tmps) = g := by
              have := wanted_of (ops := ops.toList) hf hg (by unfold gtmp; simpa using hgt) hv
              simpa using this
            rw [hw]
            cases g with
            | true =>
              rw [if_pos rfl]
              exact .inl (stepV_ok (N := N) (gs_true hop) hm (unF_rep hf) hf hn hd hdst fun M' x G' a' w' k1 k2 k3 k4 k5 k6 =>
                anyA_ok ha k6 k2 k3.optT k4 k5 fun M2 f2 G2 a2 w2 j1 j2 j3 j4 j5 j6 => hq M2 f2 G2 a2 w2 (PM.le_trans k1 j1) j2 j3 j4 j5 j6)
            | false =>
              rw [if_neg (by simp)]
              obtain ⟨x, h2⟩ := gs_false hop
              obtain ⟨q1, q2, q3⟩ := put_frame hf hn hd hdst (Rep.optF (M := M) x)
              exact anyA_ok ha h2 hm q1 q2 q3 hq
          · exact hop.elim
        · exact hop.elim

/-- What an operation answers, without writing, guard and all. -/
def Ans1 (P : Program) (ops : Array Oper) (o : Oper) (f : FF) (G : Heap) (x : V) : Prop :=
  match o.guard with
  | none => QEv P f G o.op x
  | some (j, want) => match (ops[j]?).bind (·.dst) with
    | some d => match (f d).bind (gcond want) with
      | some g => ∃ y, x = .opt g y ∧ (g = true → QEv P (unF g f) G o.op y)
      | none => False
    | none => False
theorem looks_op {o : Oper} {d : Tmp} (h : d ∉ o.looksAt ops) {f f' : FF} (hf : ∀ t, t ≠ d → f t = f' t) : ∀ y ∈ o.op.operands, ev f y = ev f' y := by
  intro y hy
  refine ev_congr fun t ht => ?_
  subst ht
  refine hf t ?_
  intro e; subst e
  exact h (List.mem_append_left _ (List.mem_filterMap.2 ⟨.tmp t, by simpa using hy, rfl⟩))
theorem upd_ne {f : FF} {d t : Tmp} {x : V} (h : t ≠ d) : f t = upd f (some d) x t := by
  show f t = if d = t then some x else f t
  rw [if_neg (Ne.symm h)]
theorem unF_ne {g : Bool} {f : FF} {d t : Tmp} {x : V} (h : t ≠ d) : unF g f t = unF g (upd f (some d) x) t := by
  unfold unF
  rw [← upd_ne h]
theorem looks_guard {o : Oper} {d : Tmp} (h : d ∉ o.looksAt ops) {f : FF} {x : V} {j : Nat} {want : Bool} {t : Tmp} (hg : o.guard = some (j, want)) (ht : (ops[j]?).bind (·.dst) = some t) : upd f (some d) x t = f t := by
  unfold upd
  simp only
  rw [if_neg]
  intro e; subst e
  exact h (List.mem_append_right _ (by rw [hg]; simp only; rw [ht]; simp))
theorem Ans1.put {o : Oper} {f : FF} {G : Heap} {x y : V} {dst : Option Tmp} (h : Ans1 P ops o f G x) (hd : ∀ d, dst = some d → d ∉ o.looksAt ops) : Ans1 P ops o (upd f dst y) G x := by
  cases dst with
  | none => exact h
  | some d =>
    have hn := hd d rfl
    unfold Ans1 at h ⊢
    cases hg : o.guard with
    | none => rw [hg] at h; exact QEv.congr h (looks_op hn fun t ht => upd_ne ht)
    | some jw =>
      obtain ⟨j, want⟩ := jw
      rw [hg] at h
      simp only at h ⊢
      cases ht : (ops[j]?).bind (·.dst) with
      | none => rw [ht] at h; exact h
      | some t =>
        rw [ht] at h
        simp only at h ⊢
        rw [looks_guard hn hg ht]
        split at h
        · rename_i g hv
          obtain ⟨z, h1, h2⟩ := h
          exact ⟨z, h1, fun e => QEv.congr (h2 e) (looks_op hn fun t ht => unF_ne ht)⟩
        · exact h.elim
theorem Ans1.heap {o : Oper} {f : FF} {G G' : Heap} {x : V} (h : Ans1 P ops o f G x) (hq : ∀ f x, QEv P f G o.op x → QEv P f G' o.op x) : Ans1 P ops o f G' x := by
  unfold Ans1 at h ⊢
  split at h
  · exact hq _ _ h
  · split at h
    · split at h
      · obtain ⟨z, h1, h2⟩ := h
        exact ⟨z, h1, fun e => hq _ _ (h2 e)⟩
      · exact h.elim
    · exact h.elim
theorem Ans1.aOp {i : Nat} {o : Oper} (hi : ops[i]? = some o) {f : FF} {G : Heap} {x : V} (hq : qs i = true) (h : Ans1 P ops o f G x) {K : Kq} (hk : K (upd f o.dst x) G) : aOp P ops qs i K f G := by
  unfold Go.Proofs.YtomjghlaoncpbaaV.aOp gsem
  rw [hi]
  unfold Ans1 at h
  simp only
  split at h
  · simp only [sem, hq, if_true]; exact ⟨x, h, hk⟩
  · split at h
    · split at h
      · obtain ⟨z, rfl, h2⟩ := h
        simp only [gs, hq, if_true]
        exact ⟨z, h2, hk⟩
      · exact h.elim
    · exact h.elim
theorem gstep_mono {g : Bool} {f : FF} {G : Heap} {op : Op} {K K' : Kv} (hk : ∀ x G, K x G → K' x G) (h : gstep P g f G op K) : gstep P g f G op K' := by
  unfold gstep at h ⊢
  split at h
  · exact ⟨h.1, hk _ _ h.2⟩
  · exact ⟨fun e => fx_mono (fun x G => hk _ _) (h.1 e), fun e => (h.2 e).elim fun x hx => ⟨x, hk _ _ hx⟩⟩
theorem gs_mono {q g : Bool} {f : FF} {G : Heap} {op : Op} {K K' : Kv} (hk : ∀ x G, K x G → K' x G) (h : gs P q g f G op K) : gs P q g f G op K' := by
  unfold gs at h ⊢
  cases q with
  | true => obtain ⟨x, h1, h2⟩ := h; exact ⟨x, h1, hk _ _ h2⟩
  | false => exact gstep_mono hk h
theorem sem_mono {q : Bool} {f : FF} {G : Heap} {op : Op} {K K' : Kv} (hk : ∀ x G, K x G → K' x G) (h : sem P q f G op K) : sem P q f G op K' := by
  unfold sem at h ⊢
  cases q with
  | true => obtain ⟨x, h1, h2⟩ := h; exact ⟨x, h1, hk _ _ h2⟩
  | false => exact stepV_mono hk h
theorem gsem_mono {q : Bool} {o : Oper} {f : FF} {G : Heap} {K K' : Kv} (hk : ∀ x G, K x G → K' x G) (h : gsem P ops q o f G K) : gsem P ops q o f G K' := by
  unfold gsem at h ⊢
  split at h
  · exact sem_mono hk h
  · split at h
    · split at h
      · exact gs_mono hk h
      · exact h.elim
    · exact h.elim
theorem aOp_mono {i : Nat} {K K' : Kq} {f : FF} {G : Heap} (hk : ∀ f G, K f G → K' f G) (h : aOp P ops qs i K f G) : aOp P ops qs i K' f G := by
  unfold aOp at h ⊢
  split at h
  · exact hk _ _ h
  · exact gsem_mono (fun x G => hk _ _) h

/-- Two operations that may change places: one does not look at the heap, or the other leaves what it says alone. -/
def commB (qj : Bool) (oi oj : Oper) : Bool := pureOp oi.op || qj || mildOp oj.op
theorem upd_comm {f : FF} {x y : Option Tmp} {u v : V} (h : ∀ d, x = some d → y ≠ some d) : upd (upd f x u) y v = upd (upd f y v) x u := by
  cases x with
  | none => rfl
  | some d =>
    cases y with
    | none => rfl
    | some e =>
      have hne : d ≠ e := fun he => h d rfl (he ▸ rfl)
      funext t
      unfold upd
      simp only
      by_cases h1 : e = t
      · subst h1; rw [if_pos rfl, if_neg hne, if_pos rfl]
      · rw [if_neg h1]
        by_cases h2 : d = t
        · subst h2; simp
        · rw [if_neg h2, if_neg h2, if_neg h1]
theorem sem_comm {qj : Bool} {oi oj : Oper} {f f' : FF} {G : Heap} {x : V} {K : Kv} (hc : commB qj oi oj = true) (hcg : ∀ y ∈ oj.op.operands, ev f' y = ev f y) (hy : Ans1 P ops oi f G x) (h : sem P qj f' G oj.op K) :
    sem P qj f G oj.op (fun u G' => Ans1 P ops oi f G' x ∧ K u G') := by
  unfold sem at h ⊢
  cases qj with
  | true =>
    simp only [if_true] at h ⊢
    obtain ⟨u, h1, h2⟩ := h
    exact ⟨u, h1.congr hcg, hy, h2⟩
  | false =>
    simp only [Bool.false_eq_true, if_false] at h ⊢
    have h' := stepV_congr hcg h
    unfold commB at hc
    simp only [Bool.or_false, Bool.or_eq_true] at hc
    rcases hc with hp | hm
    · exact stepV_mono (fun u G' hk => ⟨hy.heap (fun f x hq => hq.pure hp G'), hk⟩) h'
    · exact stepV_mono (fun u G' hk => ⟨hy.heap (fun f x hq => hq.stable hk.1), hk.2⟩) (stepV_mild hm h')
theorem gs_comm {qj g : Bool} {oi oj : Oper} {f f' : FF} {G : Heap} {x : V} {K : Kv} (hc : commB qj oi oj = true) (hcg : ∀ y ∈ oj.op.operands, ev (unF g f') y = ev (unF g f) y) (hy : Ans1 P ops oi f G x) (h : gs P qj g f' G oj.op K) :
    gs P qj g f G oj.op (fun u G' => Ans1 P ops oi f G' x ∧ K u G') := by
  unfold gs at h ⊢
  cases qj with
  | true =>
    simp only [if_true] at h ⊢
    obtain ⟨u, h1, h2⟩ := h
    exact ⟨u, fun e => (h1 e).congr hcg, hy, h2⟩
  | false =>
    simp only [Bool.false_eq_true, if_false] at h ⊢
    unfold gstep at h ⊢
    rw [← qv_congr hcg]
    split at h
    · rename_i hq; exact ⟨h.1, hy, h.2⟩
    · rename_i hq
      refine ⟨fun e => ?_, fun e => (h.2 e).elim fun x hx => ⟨x, hy, hx⟩⟩
      have h1 : stepV P (unF g f) G oj.op (fun x G => K (.opt g x) G) := by
        unfold stepV
        rw [← qv_congr hcg, hq]
        exact fx_congr hcg (h.1 e)
      have h2 : stepV P (unF g f) G oj.op (fun u G' => Ans1 P ops oi f G' x ∧ K (.opt g u) G') := by
        unfold commB at hc
        simp only [Bool.or_false, Bool.or_eq_true] at hc
        rcases hc with hp | hm
        · exact stepV_mono (fun u G' hk => ⟨hy.heap (fun f x hq => hq.pure hp G'), hk⟩) h1
        · exact stepV_mono (fun u G' hk => ⟨hy.heap (fun f x hq => hq.stable hk.1), hk.2⟩) (stepV_mild hm h1)
      unfold stepV at h2
      rw [← qv_congr hcg, hq] at h2
      exact h2
theorem aOp_put {i j : Nat} {oi oj : Oper} {x : V} (hj : ops[j]? = some oj) (hap : oi.apart ops oj = true) (hc : commB (qs j) oi oj = true) {K : Kq} {f : FF} {G : Heap} (hy : Ans1 P ops oi f G x)
    (h : aOp P ops qs j K (upd f oi.dst x) G) : aOp P ops qs j (fun f' G' => Ans1 P ops oi f' G' x ∧ K (upd f' oi.dst x) G') f G := by
  obtain ⟨h1, h2, h3⟩ := Oper.apart_spec hap
  unfold aOp at h ⊢
  rw [hj] at h ⊢
  simp only at h ⊢
  have hcg : ∀ y ∈ oj.op.operands, ev (upd f oi.dst x) y = ev f y := fun y hy' => by
    cases hd : oi.dst with
    | none => rfl
    | some d => exact (looks_op (h1 d hd) (fun t ht => upd_ne ht) y hy').symm
  have hcg2 : ∀ g, ∀ y ∈ oj.op.operands, ev (unF g (upd f oi.dst x)) y = ev (unF g f) y := fun g y hy' => by
    cases hd : oi.dst with
    | none => rfl
    | some d => exact (looks_op (h1 d hd) (fun t ht => unF_ne ht) y hy').symm
  have hput : ∀ (u : V) (G' : Heap), Ans1 P ops oi f G' x ∧ K (upd (upd f oi.dst x) oj.dst u) G' → Ans1 P ops oi (upd f oj.dst u) G' x ∧ K (upd (upd f oj.dst u) oi.dst x) G' := fun u G' h => ⟨h.1.put h3, by rw [← upd_comm h2]; exact h.2⟩
  refine gsem_mono hput ?_
  unfold gsem at h ⊢
  cases hg : oj.guard with
  | none => rw [hg] at h; exact sem_comm hc hcg hy h
  | some jw =>
    obtain ⟨k, want⟩ := jw
    rw [hg] at h
    simp only at h ⊢
    cases ht : (ops[k]?).bind (·.dst) with
    | none => rw [ht] at h; exact h
    | some t =>
      rw [ht] at h
      simp only at h ⊢
      have hgd : upd f oi.dst x t = f t := by
        cases hd : oi.dst with
        | none => rfl
        | some d => exact looks_guard (h1 d hd) hg ht
      rw [hgd] at h
      split at h
      · exact gs_comm hc (hcg2 _) hy h
      · exact h.elim

theorem anyA_first {K : Kq} {i : Nat} {oi : Oper} {x : V} (hi : ops[i]? = some oi) (hqi : qs i = true) : ∀ (n : Nat) (listed : Array Bool) (f : FF) (G : Heap),
    (∀ j oj, ops[j]? = some oj → j ≠ i → listed.getD j true = false → (∀ e ∈ oj.after, Region.binds .any e = true → e.on ≠ i) → oi.apart ops oj = true ∧ commB (qs j) oi oj = true) →
    i ∈ Region.ready .any ops listed → Ans1 P ops oi f G x → anyA P ops qs K n (listed.setIfInBounds i true) (upd f oi.dst x) G → anyA P ops qs K (n + 1) listed f G := by
  intro n
  induction n with
  | zero =>
    intro listed f G _ hr hy H
    refine ⟨fun h => (by rw [h] at hr; cases hr), fun j hj => ?_⟩
    by_cases hji : j = i
    · subst hji; exact hy.aOp hi hqi H
    · have := ready_mono hj hji
      rw [H.1] at this
      cases this
  | succ n ih =>
    intro listed f G hfree hr hy H
    refine ⟨fun h => (by rw [h] at hr; cases hr), fun j hj => ?_⟩
    by_cases hji : j = i
    · subst hji; exact hy.aOp hi hqi H
    · have h1 := H.2 j (ready_mono hj hji)
      obtain ⟨hjun, oj, hoj, hall⟩ := mem_ready.1 hj
      have hnot : ∀ e ∈ oj.after, Region.binds .any e = true → e.on ≠ i := fun e he hb heq => by
        have h1 := hall e he hb
        have h0 := (mem_ready.1 hr).1
        rw [heq] at h1
        rcases Nat.lt_or_ge i listed.size with h' | h'
        · simp [h'] at h0 h1; rw [h0] at h1; cases h1
        · simp [Array.getElem?_eq_none h'] at h1
      obtain ⟨hap, hcm⟩ := hfree j oj hoj hji hjun hnot
      have h2 := aOp_put (i := i) hoj hap hcm hy h1
      have hfree' : ∀ k ok, ops[k]? = some ok → k ≠ i → (listed.setIfInBounds j true).getD k true = false → (∀ e ∈ ok.after, Region.binds .any e = true → e.on ≠ i) → oi.apart ops ok = true ∧ commB (qs k) oi ok = true := fun k ok hk hki hun hno => by
        refine hfree k ok hk hki ?_ hno
        by_cases hjk : j = k
        · subst hjk; exact hjun
        · rw [getD_set_ne true hjk] at hun; exact hun
      refine aOp_mono (fun f' G' h3 => ih (listed.setIfInBounds j true) f' G' hfree' (ready_mono hr (Ne.symm hji)) h3.1 ?_) h2
      rw [Array.setIfInBounds_comm _ _ hji]
      exact h3.2
end

/-! ### the order that is walked, and that it serves -/
def qOf (σ : List (Nat × Bool)) (i : Nat) : Bool := match σ with | [] => false | (j, q) :: σ => if j = i then q else qOf σ i
def freeB (ops : Array Oper) (qs : Nat → Bool) (listed : Array Bool) (i : Nat) : Bool :=
  match ops[i]? with
  | none => false
  | some oi => (List.range ops.size).all fun j => j == i || listed.getD j true || match ops[j]? with
      | some oj => oj.after.any (fun e => Region.binds .any e && e.on == i) || (oi.apart ops oj && commB (qs j) oi oj)
      | none => true
def ordFrom (ops : Array Oper) (qs : Nat → Bool) : List (Nat × Bool) → Array Bool → Bool
  | [], listed => (Region.ready .any ops listed).isEmpty
  | (i, q) :: σ, listed => (Region.ready .any ops listed).contains i && (qs i == q) && (if q then freeB ops qs listed i else Region.ready .any ops listed == [i]) && ordFrom ops qs σ (listed.setIfInBounds i true)
def ordOk (ops : Array Oper) (σ : List (Nat × Bool)) : Bool := (σ.length == ops.size) && ordFrom ops (qOf σ) σ (Array.replicate ops.size false)

/-- The walk in that order. -/
def quietK (P : Program) (f : FF) (G : Heap) (op : Op) (K : Kv) : Prop :=
  match qv P f G op with
  | some (C, x) => C ∧ K x G
  | none => match op with
    | .call { callee := .value c, args := as, argTypes := _ } => match callee f c, evL f as.toList with
      | some (g, xs, ys), some zs => ∃ x, QOn P G g (xs ++ zs ++ ys) x ∧ K x G
      | _, _ => False
    | _ => False
def semK (P : Program) (q : Bool) (f : FF) (G : Heap) (op : Op) (K : Kv) : Prop := match q with | true => quietK P f G op K | false => stepV P f G op K
/-- The same under a guard. -/
def quietG (P : Program) (g : Bool) (f : FF) (G : Heap) (op : Op) (K : Kv) : Prop :=
  match qv P (unF g f) G op with
  | some (C, x) => (g = true → C) ∧ K (.opt g x) G
  | none => match op with
    | .call { callee := .value c, args := as, argTypes := _ } => match callee (unF g f) c, evL (unF g f) as.toList with
      | some (h, xs, ys), some zs => ∃ x, (g = true → QOn P G h (xs ++ zs ++ ys) x) ∧ K (.opt g x) G
      | _, _ => g = false ∧ K (.opt g .any) G
    | _ => g = false ∧ K (.opt g .any) G
def semG (P : Program) (q g : Bool) (f : FF) (G : Heap) (op : Op) (K : Kv) : Prop := match q with | true => quietG P g f G op K | false => gstep P g f G op K
def rgD (P : Program) (ops : List Oper) : List (Nat × Bool) → Frame → Heap → Kf → Prop
  | [], f, G, K => K f G
  | (i, q) :: σ, f, G, K => match ops[i]? with
    | none => False
    | some o => match o.guard with
      | none => semK P q (fget f) G o.op (fun x G => rgD P ops σ (fput f o.dst x) G K)
      | some (j, want) => match gtmp ops j with
        | some d => match (fget f d).bind (gcond want) with
          | some g => semG P q g (fget f) G o.op (fun x G => rgD P ops σ (fput f o.dst x) G K)
          | none => False
        | none => False
section
variable {P : Program} {N : Nat} {Q : Cont} {f : Frame} {G : Heap}
theorem quietK_ev {f : FF} {G : Heap} {op : Op} {K : Kv} (h : quietK P f G op K) : ∃ x, QEv P f G op x ∧ K x G := by
  unfold quietK at h
  split at h
  · rename_i C x hq; exact ⟨x, .inl ⟨C, hq, h.1⟩, h.2⟩
  · split at h
    · split at h
      · rename_i g xs ys zs hc hz
        obtain ⟨x, h1, h2⟩ := h
        exact ⟨x, .inr ⟨_, _, _, g, xs, ys, zs, rfl, hc, hz, h1⟩, h2⟩
      · exact h.elim
    · exact h.elim
theorem quietG_ev {g : Bool} {f : FF} {G : Heap} {op : Op} {K : Kv} (h : quietG P g f G op K) : ∃ x, (g = true → QEv P (unF g f) G op x) ∧ K (.opt g x) G := by
  unfold quietG at h
  split at h
  · rename_i C x hq; exact ⟨x, fun e => .inl ⟨C, hq, h.1 e⟩, h.2⟩
  · split at h
    · split at h
      · rename_i g xs ys zs hc hz
        obtain ⟨x, h1, h2⟩ := h
        exact ⟨x, fun e => .inr ⟨_, _, _, g, xs, ys, zs, rfl, hc, hz, h1 e⟩, h2⟩
      · exact ⟨.any, fun e => (by rw [h.1] at e; cases e), h.2⟩
    · exact ⟨.any, fun e => (by rw [h.1] at e; cases e), h.2⟩
theorem rgD_any {ops : List Oper} {qs : Nat → Bool} {K : Kf} : ∀ {σ : List (Nat × Bool)} {listed : Array Bool} {f : Frame} {G : Heap}, ordFrom ops.toArray qs σ listed = true → rgD P ops σ f G K →
    anyA P ops.toArray qs (fun φ G => ∃ f : Frame, fget f = φ ∧ K f G) σ.length listed (fget f) G
  | [], listed, f, G, ho, h => ⟨by simpa [ordFrom] using ho, f, rfl, h⟩
  | (i, q) :: σ, listed, f, G, ho, h => by
    simp only [ordFrom, Bool.and_eq_true, beq_iff_eq] at ho
    obtain ⟨⟨⟨hr, hqs⟩, hcase⟩, hrest⟩ := ho
    have hr' : i ∈ Region.ready .any ops.toArray listed := by simpa using hr
    unfold rgD at h
    cases ho' : ops[i]? with
    | none => rw [ho'] at h; exact h.elim
    | some o =>
      rw [ho'] at h
      simp only at h
      have hoA : ops.toArray[i]? = some o := by simpa using ho'
      have hrest' : ∀ x G', rgD P ops σ (fput f o.dst x) G' K → anyA P ops.toArray qs (fun φ G => ∃ f : Frame, fget f = φ ∧ K f G) σ.length (listed.setIfInBounds i true) (upd (fget f) o.dst x) G' := fun x G' hk => by
        have := rgD_any hrest hk
        rw [fget_fput] at this; exact this
      cases q with
      | true =>
        simp only [if_true] at hcase
        have hfree : ∀ j oj, ops.toArray[j]? = some oj → j ≠ i → listed.getD j true = false → (∀ e ∈ oj.after, Region.binds .any e = true → e.on ≠ i) → o.apart ops.toArray oj = true ∧ commB (qs j) o oj = true := by
          intro j oj hj hne hun hno
          simp only [freeB, hoA, List.all_eq_true, List.mem_range] at hcase
          have h1 := hcase j (Array.getElem?_eq_some_iff.1 hj).1
          simp only [hj, Bool.or_eq_true, beq_iff_eq, hne, false_or, hun, Bool.false_eq_true, Bool.and_eq_true] at h1
          rcases h1 with h1 | h1
          · obtain ⟨e, he, hb⟩ := Array.any_eq_true'.1 h1
            simp only [Bool.and_eq_true, beq_iff_eq] at hb
            exact absurd hb.2 (hno e he hb.1)
          · exact h1
        cases hg : o.guard with
        | none =>
          rw [hg] at h
          have h : quietK P (fget f) G o.op (fun x G => rgD P ops σ (fput f o.dst x) G K) := h
          obtain ⟨x, h1, h2⟩ := quietK_ev h
          refine anyA_first hoA hqs σ.length listed (fget f) G hfree hr' (x := x) ?_ (hrest' _ _ h2)
          unfold Ans1; rw [hg]; exact h1
        | some jw =>
          obtain ⟨j, want⟩ := jw
          rw [hg] at h
          simp only at h
          split at h
          · rename_i d hgt
            have hgtA : (ops.toArray[j]?).bind (·.dst) = some d := by unfold gtmp at hgt; simpa using hgt
            split at h
            · rename_i g hb
              have h : quietG P g (fget f) G o.op (fun x G => rgD P ops σ (fput f o.dst x) G K) := h
              obtain ⟨x, h1, h2⟩ := quietG_ev h
              refine anyA_first hoA hqs σ.length listed (fget f) G hfree hr' (x := .opt g x) ?_ (hrest' _ _ h2)
              unfold Ans1; rw [hg]; simp only; rw [hgtA]; simp only; rw [hb]; exact ⟨x, rfl, h1⟩
            · exact h.elim
          · exact h.elim
      | false =>
        simp only [Bool.false_eq_true, if_false, beq_iff_eq] at hcase
        refine ⟨fun h0 => (by rw [h0] at hr'; cases hr'), fun k hk => ?_⟩
        have hki : k = i := by rw [hcase] at hk; simpa using hk
        subst hki
        unfold aOp
        rw [hoA]
        refine gsem_mono (fun x G' hk => hrest' x G' hk) ?_
        unfold gsem
        cases hg : o.guard with
        | none =>
          rw [hg] at h
          simp only [sem, hqs, Bool.false_eq_true, if_false]
          exact h
        | some jw =>
          obtain ⟨j, want⟩ := jw
          rw [hg] at h
          simp only at h ⊢
          split at h
          · rename_i d hgt
            have hgtA : (ops.toArray[j]?).bind (·.dst) = some d := by unfold gtmp at hgt; simpa using hgt
            rw [hgtA]
            simp only
            split at h
            · rename_i g hb
              try simp only [hb]
              simp only [gs, hqs, Bool.false_eq_true, if_false]
              exact h
            · exact h.elim
          · exact h.elim
theorem aw_region_draw {id : Nat} {ops : List Oper} (σ : List (Nat × Bool)) (hmx : P.follows .mixedOrders = true) (hd : ops.all (dstOk N) = true) (ho : ordOk ops.toArray σ = true) (h : rgD P ops σ f G (fun f G => Q .normal f G)) : AW P N (.region id ops.toArray true) Q f G := by
  intro E M w a hm hr hn hdf
  simp only [ordOk, Bool.and_eq_true, beq_iff_eq] at ho
  have hany := rgD_any ho.2 h
  refine wp_region_any hmx ?_
  rw [← ho.1]
  refine anyA_ok (N := N) (E := E) (M := M) (fun i o hi => ?_) (by rw [ho.1]; rw [ho.1] at hany; exact hany) hm.drew hr hn hdf fun M' f' G' a' w' k1 k2 k3 k4 k5 k6 => ?_
  · have := List.all_eq_true.1 hd o (by simp at hi; exact List.mem_of_getElem? hi)
    exact this
  · obtain ⟨f2, rfl, hq⟩ := k6
    exact ⟨M', f2, G', k1, k2, k3, k4, k5, hq⟩
end
end Go.Proofs.YtomjghlaoncpbaaV
