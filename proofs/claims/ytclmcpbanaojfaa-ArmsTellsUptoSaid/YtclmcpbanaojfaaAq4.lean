/- Part 4 of a proof laid in parts; each part's own comment says what it proves and under which conditions. -/
import Derived.Test.YtclmcpbanaojfaaAq3
import Derived.Test.YtclmcpbanaojfaaProg
/-
  A region that draws its order, one of whose operations is told by hand: the others change places with it only if they do not look at the heap.
-/
namespace Go.Proofs.YtclmcpbanaojfaaV
open Go.RowKit
set_option linter.unusedVariables false
set_option linter.unusedSimpArgs false
def aOpW (P : Program) (ops : Array Oper) (qs : Nat → Bool) (k i : Nat) (K : Kq) (f : FF) (G : Heap) : Prop :=
  match ops[i]? with
  | none => K f G
  | some o => if i = k then wild P o.op f G (fun x G' => K (upd f o.dst x) G') else gsem P ops (qs i) o f G (fun x G' => K (upd f o.dst x) G')
def anyAW (P : Program) (ops : Array Oper) (qs : Nat → Bool) (k : Nat) (K : Kq) : Nat → Array Bool → FF → Heap → Prop
  | 0, listed, f, G => Region.ready .any ops listed = [] ∧ K f G
  | n + 1, listed, f, G => (Region.ready .any ops listed = [] → K f G) ∧ ∀ i ∈ Region.ready .any ops listed, aOpW P ops qs k i (anyAW P ops qs k K n (listed.setIfInBounds i true)) f G
section
variable {P : Program} {ops : Array Oper} {qs : Nat → Bool} {N k : Nat}
theorem anyAW_ok {E : Env} {Q' : Exit → Act → World → Prop} {K : Kq} (hgk : ∀ o, ops[k]? = some o → o.guard = none) (ha : ∀ (i : Nat) (o : Oper), ops[i]? = some o → dstOk N o = true) : ∀ {n : Nat} {listed : Array Bool} {f : FF} {G : Heap} {M : PM} {w : World} {a : Act},
    anyAW P ops qs k K n listed f G → Mem E M G w → RepG M f a.tmps → a.tmps.size = N → a.defers = [] →
    (∀ M' f' G' (a' : Act) w', M.le M' → Mem E M' G' w' → RepG M' f' a'.tmps → a'.tmps.size = N → a'.defers = [] → K f' G' → Q' .normal a' w') → wpAny P .any ops Q' n listed a w
  | 0, listed, f, G, M, w, a, h, hm, hf, hn, hd, hq => ⟨h.1, hq M f G a w M.le_refl hm hf hn hd h.2⟩
  | n + 1, listed, f, G, M, w, a, h, hm, hf, hn, hd, hq => by
    refine ⟨fun h0 => hq M f G a w M.le_refl hm hf hn hd (h.1 h0), fun i hi => ?_⟩
    have hop := h.2 i hi
    unfold aOpW at hop
    unfold wpOp
    cases ho : ops[i]? with
    | none =>
      rw [ho] at hop
      exact anyAW_ok hgk ha hop hm hf hn hd hq
    | some o =>
      rw [ho] at hop
      simp only at hop ⊢
      have hdst := ha i o ho
      by_cases hik : i = k
      · rw [if_pos hik] at hop
        obtain ⟨S, hS, hK⟩ := hop
        have hg : o.guard = none := hgk o (by rw [← hik]; exact ho)
        obtain ⟨v, w', M2, x, G2, hrun, m1, m2, m3, m4⟩ := hS E M w a o rfl hm fun y hy v hv => ev_rep hf hv
        rw [if_pos (by simp [Region.wanted, hg])]
        refine .inl ?_
        unfold Oper.wp
        rw [hrun, Oper.upon_value]
        obtain ⟨q1, q2, q3⟩ := put_frame (hf.mono m1) hn hd hdst m3
        exact anyAW_ok hgk ha (hK x G2 m2) m4 q1 q2 q3 fun M3 f2 G3 a2 w2 j1 j2 j3 j4 j5 j6 => hq M3 f2 G3 a2 w2 (PM.le_trans m1 j1) j2 j3 j4 j5 j6
      rw [if_neg hik] at hop
      unfold gsem at hop
      cases hg : o.guard with
      | none =>
        rw [hg] at hop
        rw [if_pos (by simp [Region.wanted, hg])]
        exact .inl (stepV_ok (N := N) (sem_step hop) hm hf hf hn hd hdst fun M' x G' a' w' k1 k2 k3 k4 k5 k6 =>
          anyAW_ok hgk ha k6 k2 k3 k4 k5 fun M2 f2 G2 a2 w2 j1 j2 j3 j4 j5 j6 => hq M2 f2 G2 a2 w2 (PM.le_trans k1 j1) j2 j3 j4 j5 j6)
      | some jw =>
        obtain ⟨j, want⟩ := jw
        rw [hg] at hop
        simp only at hop
        split at hop
        · rename_i d hgt
          split at hop
          · rename_i g hv
            have hw : Region.wanted o (yielded ops a.tmps) = g := by
              have := wanted_of (ops := ops.toList) hf hg (by unfold gtmp; simpa using hgt) hv
              simpa using this
            rw [hw]
            cases g with
            | true =>
              rw [if_pos rfl]
              exact .inl (stepV_ok (N := N) (gs_true hop) hm (unF_rep hf) hf hn hd hdst fun M' x G' a' w' k1 k2 k3 k4 k5 k6 =>
                anyAW_ok hgk ha k6 k2 k3.optT k4 k5 fun M2 f2 G2 a2 w2 j1 j2 j3 j4 j5 j6 => hq M2 f2 G2 a2 w2 (PM.le_trans k1 j1) j2 j3 j4 j5 j6)
            | false =>
              rw [if_neg (by simp)]
              obtain ⟨x, h2⟩ := gs_false hop
              obtain ⟨q1, q2, q3⟩ := put_frame hf hn hd hdst (Rep.optF (M := M) x)
              exact anyAW_ok hgk ha h2 hm q1 q2 q3 hq
          · exact hop.elim
        · exact hop.elim
theorem aOpW_mono {i : Nat} {K K' : Kq} {f : FF} {G : Heap} (hk : ∀ f G, K f G → K' f G) (h : aOpW P ops qs k i K f G) : aOpW P ops qs k i K' f G := by
  unfold aOpW at h ⊢
  split at h
  · exact hk _ _ h
  · split at h
    · rename_i e
      rw [if_pos e]
      obtain ⟨S, h1, h2⟩ := h
      exact ⟨S, h1, fun x G' hs => hk _ _ (h2 x G' hs)⟩
    · rename_i e
      rw [if_neg e]
      exact gsem_mono (fun x G => hk _ _) h
def commW (k : Nat) (qs : Nat → Bool) (j : Nat) (oi oj : Oper) : Bool := if j = k then pureOp oi.op else commB (qs j) oi oj
theorem aOpW_put {i j : Nat} {oi oj : Oper} {x : V} (hj : ops[j]? = some oj) (hap : oi.apart ops oj = true) (hc : commW k qs j oi oj = true) {K : Kq} {f : FF} {G : Heap} (hy : Ans1 P ops oi f G x)
    (h : aOpW P ops qs k j K (upd f oi.dst x) G) : aOpW P ops qs k j (fun f' G' => Ans1 P ops oi f' G' x ∧ K (upd f' oi.dst x) G') f G := by
  unfold commW at hc
  by_cases hjk : j = k
  · rw [if_pos hjk] at hc
    obtain ⟨h1, h2, h3⟩ := Oper.apart_spec hap
    unfold aOpW at h ⊢
    rw [hj] at h ⊢
    simp only [if_pos hjk] at h ⊢
    obtain ⟨S, hS, hK⟩ := h
    refine ⟨S, hS.congr fun y hy' => ?_, fun u G' hs => ?_⟩
    · cases hd : oi.dst with
      | none => rfl
      | some d => exact (looks_op (h1 d hd) (fun t ht => upd_ne ht) y hy').symm
    · have hk := hK u G' hs
      exact ⟨(hy.heap fun f x hq => hq.pure hc G').put h3, by rw [← upd_comm h2]; exact hk⟩
  · rw [if_neg hjk] at hc
    have h' : aOp P ops qs j K (upd f oi.dst x) G := by
      unfold aOpW at h
      unfold aOp
      rw [hj] at h ⊢
      simp only [if_neg hjk] at h ⊢
      exact h
    have := aOp_put (i := i) hj hap hc hy h'
    unfold aOp at this
    unfold aOpW
    rw [hj] at this ⊢
    simp only [if_neg hjk] at this ⊢
    exact this
theorem Ans1.aOpW {i : Nat} {o : Oper} (hi : ops[i]? = some o) (hik : i ≠ k) {f : FF} {G : Heap} {x : V} (hq : qs i = true) (h : Ans1 P ops o f G x) {K : Kq} (hk : K (upd f o.dst x) G) : aOpW P ops qs k i K f G := by
  have := h.aOp (K := K) hi hq hk
  unfold Go.Proofs.YtclmcpbanaojfaaV.aOp at this
  unfold Go.Proofs.YtclmcpbanaojfaaV.aOpW
  rw [hi] at this ⊢
  simp only [if_neg hik] at this ⊢
  exact this
theorem anyAW_first {K : Kq} {i : Nat} {oi : Oper} {x : V} (hi : ops[i]? = some oi) (hik : i ≠ k) (hqi : qs i = true) : ∀ (n : Nat) (listed : Array Bool) (f : FF) (G : Heap),
    (∀ j oj, ops[j]? = some oj → j ≠ i → listed.getD j true = false → (∀ e ∈ oj.after, Region.binds .any e = true → e.on ≠ i) → oi.apart ops oj = true ∧ commW k qs j oi oj = true) →
    i ∈ Region.ready .any ops listed → Ans1 P ops oi f G x → anyAW P ops qs k K n (listed.setIfInBounds i true) (upd f oi.dst x) G → anyAW P ops qs k K (n + 1) listed f G := by
  intro n
  induction n with
  | zero =>
    intro listed f G _ hr hy H
    refine ⟨fun h => (by rw [h] at hr; cases hr), fun j hj => ?_⟩
    by_cases hji : j = i
    · subst hji; exact hy.aOpW hi hik hqi H
    · have := ready_mono hj hji
      rw [H.1] at this
      cases this
  | succ n ih =>
    intro listed f G hfree hr hy H
    refine ⟨fun h => (by rw [h] at hr; cases hr), fun j hj => ?_⟩
    by_cases hji : j = i
    · subst hji; exact hy.aOpW hi hik hqi H
    · have h1 := H.2 j (ready_mono hj hji)
      obtain ⟨hjun, oj, hoj, hall⟩ := mem_ready.1 hj
      have hnot : ∀ e ∈ oj.after, Region.binds .any e = true → e.on ≠ i := fun e he hb heq => by
        have h1 := hall e he hb
        have h0 := (mem_ready.1 hr).1
        rw [heq] at h1
        rcases Nat.lt_or_ge i listed.size with h' | h'
        · simp [h'] at h0 h1; rw [h0] at h1; cases h1
        · simp [Array.getElem?_eq_none h'] at h1
      obtain ⟨hap, hcm⟩ := hfree j oj hoj hji hjun hnot
      have h2 := aOpW_put (i := i) hoj hap hcm hy h1
      have hfree' : ∀ l ok, ops[l]? = some ok → l ≠ i → (listed.setIfInBounds j true).getD l true = false → (∀ e ∈ ok.after, Region.binds .any e = true → e.on ≠ i) → oi.apart ops ok = true ∧ commW k qs l oi ok = true := fun l ok hk hki hun hno => by
        refine hfree l ok hk hki ?_ hno
        by_cases hjk : j = l
        · subst hjk; exact hjun
        · rw [getD_set_ne true hjk] at hun; exact hun
      refine aOpW_mono (fun f' G' h3 => ih (listed.setIfInBounds j true) f' G' hfree' (ready_mono hr (Ne.symm hji)) h3.1 ?_) h2
      rw [Array.setIfInBounds_comm _ _ hji]
      exact h3.2
end
def freeW (ops : Array Oper) (qs : Nat → Bool) (k : Nat) (listed : Array Bool) (i : Nat) : Bool :=
  match ops[i]? with
  | none => false
  | some oi => (List.range ops.size).all fun j => j == i || listed.getD j true || match ops[j]? with
      | some oj => oj.after.any (fun e => Region.binds .any e && e.on == i) || (oi.apart ops oj && commW k qs j oi oj)
      | none => true
def ordFromW (ops : Array Oper) (qs : Nat → Bool) (k : Nat) : List (Nat × Bool) → Array Bool → Bool
  | [], listed => (Region.ready .any ops listed).isEmpty
  | (i, q) :: σ, listed => (Region.ready .any ops listed).contains i && (qs i == q) && (if q then i != k && freeW ops qs k listed i else Region.ready .any ops listed == [i]) && ordFromW ops qs k σ (listed.setIfInBounds i true)
def ordOkW (ops : Array Oper) (k : Nat) (σ : List (Nat × Bool)) : Bool := (σ.length == ops.size) && ordFromW ops (qOf σ) k σ (Array.replicate ops.size false)
def rgDW (P : Program) (ops : List Oper) (k : Nat) : List (Nat × Bool) → Frame → Heap → Kf → Prop
  | [], f, G, K => K f G
  | (i, q) :: σ, f, G, K => match ops[i]? with
    | none => False
    | some o => if i = k then wild P o.op (fget f) G (fun x G => rgDW P ops k σ (fput f o.dst x) G K) else match o.guard with
      | none => semK P q (fget f) G o.op (fun x G => rgDW P ops k σ (fput f o.dst x) G K)
      | some (j, want) => match gtmp ops j with
        | some d => match (fget f d).bind (gcond want) with
          | some g => semG P q g (fget f) G o.op (fun x G => rgDW P ops k σ (fput f o.dst x) G K)
          | none => False
        | none => False
section
variable {P : Program} {N : Nat} {Q : Cont} {f : Frame} {G : Heap}
theorem rgDW_any {ops : List Oper} {qs : Nat → Bool} {k : Nat} {K : Kf} : ∀ {σ : List (Nat × Bool)} {listed : Array Bool} {f : Frame} {G : Heap}, ordFromW ops.toArray qs k σ listed = true → rgDW P ops k σ f G K →
    anyAW P ops.toArray qs k (fun φ G => ∃ f : Frame, fget f = φ ∧ K f G) σ.length listed (fget f) G
  | [], listed, f, G, ho, h => ⟨by simpa [ordFromW] using ho, f, rfl, h⟩
  | (i, q) :: σ, listed, f, G, ho, h => by
    simp only [ordFromW, Bool.and_eq_true, beq_iff_eq] at ho
    obtain ⟨⟨⟨hr, hqs⟩, hcase⟩, hrest⟩ := ho
    have hr' : i ∈ Region.ready .any ops.toArray listed := by simpa using hr
    unfold rgDW at h
    cases ho' : ops[i]? with
    | none => rw [ho'] at h; exact h.elim
    | some o =>
      rw [ho'] at h
      simp only at h
      have hoA : ops.toArray[i]? = some o := by simpa using ho'
      have hrest' : ∀ x G', rgDW P ops k σ (fput f o.dst x) G' K → anyAW P ops.toArray qs k (fun φ G => ∃ f : Frame, fget f = φ ∧ K f G) σ.length (listed.setIfInBounds i true) (upd (fget f) o.dst x) G' := fun x G' hk => by
        have := rgDW_any hrest hk
        rw [fget_fput] at this; exact this
      cases q with
      | true =>
        simp only [if_true, Bool.and_eq_true, bne_iff_ne] at hcase
        obtain ⟨hik, hcase⟩ := hcase
        rw [if_neg hik] at h
        have hfree : ∀ j oj, ops.toArray[j]? = some oj → j ≠ i → listed.getD j true = false → (∀ e ∈ oj.after, Region.binds .any e = true → e.on ≠ i) → o.apart ops.toArray oj = true ∧ commW k qs j o oj = true := by
          intro j oj hj hne hun hno
          simp only [freeW, hoA, List.all_eq_true, List.mem_range] at hcase
          have h1 := hcase j (Array.getElem?_eq_some_iff.1 hj).1
          simp only [hj, Bool.or_eq_true, beq_iff_eq, hne, false_or, hun, Bool.false_eq_true, Bool.and_eq_true] at h1
          rcases h1 with h1 | h1
          · obtain ⟨e, he, hb⟩ := Array.any_eq_true'.1 h1
            simp only [Bool.and_eq_true, beq_iff_eq] at hb
            exact absurd hb.2 (hno e he hb.1)
          · exact h1
        cases hg : o.guard with
        | none =>
          rw [hg] at h
          have h : quietK P (fget f) G o.op (fun x G => rgDW P ops k σ (fput f o.dst x) G K) := h
          obtain ⟨x, h1, h2⟩ := quietK_ev h
          refine anyAW_first hoA hik hqs σ.length listed (fget f) G hfree hr' (x := x) ?_ (hrest' _ _ h2)
          unfold Ans1; rw [hg]; exact h1
        | some jw =>
          obtain ⟨j, want⟩ := jw
          rw [hg] at h
          simp only at h
          split at h
          · rename_i d hgt
            have hgtA : (ops.toArray[j]?).bind (·.dst) = some d := by unfold gtmp at hgt; simpa using hgt
            split at h
            · rename_i g hb
              have h : quietG P g (fget f) G o.op (fun x G => rgDW P ops k σ (fput f o.dst x) G K) := h
              obtain ⟨x, h1, h2⟩ := quietG_ev h
              refine anyAW_first hoA hik hqs σ.length listed (fget f) G hfree hr' (x := .opt g x) ?_ (hrest' _ _ h2)
              unfold Ans1; rw [hg]; simp only; rw [hgtA]; simp only; rw [hb]; exact ⟨x, rfl, h1⟩
            · exact h.elim
          · exact h.elim
      | false =>
        simp only [Bool.false_eq_true, if_false, beq_iff_eq] at hcase
        refine ⟨fun h0 => (by rw [h0] at hr'; cases hr'), fun l hk => ?_⟩
        have hki : l = i := by rw [hcase] at hk; simpa using hk
        subst hki
        unfold aOpW
        rw [hoA]
        simp only
        by_cases hik : l = k
        · rw [if_pos hik] at h ⊢
          obtain ⟨S, h1, h2⟩ := h
          exact ⟨S, h1, fun x G' hs => hrest' x G' (h2 x G' hs)⟩
        rw [if_neg hik] at h ⊢
        refine gsem_mono (fun x G' hk => hrest' x G' hk) ?_
        unfold gsem
        cases hg : o.guard with
        | none =>
          rw [hg] at h
          simp only [sem, hqs, Bool.false_eq_true, if_false]
          exact h
        | some jw =>
          obtain ⟨j, want⟩ := jw
          rw [hg] at h
          simp only at h ⊢
          split at h
          · rename_i d hgt
            have hgtA : (ops.toArray[j]?).bind (·.dst) = some d := by unfold gtmp at hgt; simpa using hgt
            rw [hgtA]
            simp only
            split at h
            · rename_i g hb
              try simp only [hb]
              simp only [gs, hqs, Bool.false_eq_true, if_false]
              exact h
            · exact h.elim
          · exact h.elim
theorem semK_mono {q : Bool} {f : FF} {G : Heap} {op : Op} {K K' : Kv} (hk : ∀ x G, K x G → K' x G) (h : semK P q f G op K) : semK P q f G op K' := by
  cases q with
  | true =>
    have h : quietK P f G op K := h
    show quietK P f G op K'
    unfold quietK at h ⊢
    split at h
    · exact ⟨h.1, hk _ _ h.2⟩
    · split at h
      · split at h
        · obtain ⟨x, h1, h2⟩ := h; exact ⟨x, h1, hk _ _ h2⟩
        · exact h.elim
      · exact h.elim
  | false => exact stepV_mono hk h
theorem semG_mono {q g : Bool} {f : FF} {G : Heap} {op : Op} {K K' : Kv} (hk : ∀ x G, K x G → K' x G) (h : semG P q g f G op K) : semG P q g f G op K' := by
  cases q with
  | true =>
    have h : quietG P g f G op K := h
    show quietG P g f G op K'
    unfold quietG at h ⊢
    split at h
    · exact ⟨h.1, hk _ _ h.2⟩
    · split at h
      · split at h
        · obtain ⟨x, h1, h2⟩ := h; exact ⟨x, h1, hk _ _ h2⟩
        · exact ⟨h.1, hk _ _ h.2⟩
      · exact ⟨h.1, hk _ _ h.2⟩
  | false => exact gstep_mono hk h
theorem rgD_mono {l : List Oper} {K K' : Kf} (hk : ∀ f G, K f G → K' f G) : ∀ {σ : List (Nat × Bool)} {f : Frame} {G : Heap}, rgD P l σ f G K → rgD P l σ f G K'
  | [], f, G, h => hk _ _ h
  | (i, q) :: σ, f, G, h => by
    unfold rgD at h ⊢
    cases ho : l[i]? with
    | none => rw [ho] at h; exact h
    | some o =>
      rw [ho] at h
      simp only at h ⊢
      cases hg : o.guard with
      | none =>
        rw [hg] at h
        exact semK_mono (fun x G h => rgD_mono hk h) h
      | some jw =>
        obtain ⟨j, want⟩ := jw
        rw [hg] at h
        simp only at h ⊢
        split at h
        · split at h
          · exact semG_mono (fun x G h => rgD_mono hk h) h
          · exact h.elim
        · exact h.elim
theorem rgDW_of {ops : List Oper} {k : Nat} {K : Kf} {σ2 : List (Nat × Bool)} : ∀ {σ1 : List (Nat × Bool)} {f : Frame} {G : Heap}, σ1.all (fun e => e.1 != k) = true → rgD P ops σ1 f G (fun f G => rgDW P ops k σ2 f G K) → rgDW P ops k (σ1 ++ σ2) f G K
  | [], f, G, _, h => h
  | (i, q) :: σ, f, G, hk, h => by
    simp only [List.all_cons, Bool.and_eq_true, bne_iff_ne] at hk
    obtain ⟨hik, hk⟩ := hk
    rw [List.cons_append]
    unfold rgD at h
    unfold rgDW
    cases ho : ops[i]? with
    | none => rw [ho] at h; exact h
    | some o =>
      rw [ho] at h
      simp only [if_neg hik] at h ⊢
      cases hg : o.guard with
      | none =>
        rw [hg] at h
        exact semK_mono (fun x G h => rgDW_of hk h) h
      | some jw =>
        obtain ⟨j, want⟩ := jw
        rw [hg] at h
        simp only at h ⊢
        cases hgt : gtmp ops j with
        | none => rw [hgt] at h; exact h
        | some d =>
          rw [hgt] at h
          simp only at h ⊢
          cases hb : (fget f d).bind (gcond want) with
          | none => rw [hb] at h; exact h
          | some g =>
            rw [hb] at h
            exact semG_mono (fun x G h => rgDW_of hk h) h
/-- A region that draws; operation k is told by hand. -/
theorem aw_rgw {id : Nat} {l : List Oper} (σ1 : List (Nat × Bool)) (k : Nat) (σ2 : List (Nat × Bool)) {o : Oper} (hmx : P.follows .mixedOrders = true) (hl : l[k]? = some o) (hg : o.guard = none) (hd : l.all (dstOk N) = true) (ho : (ordOkW l.toArray k (σ1 ++ (k, false) :: σ2) && (σ1.all (fun e => e.1 != k) && σ2.all (fun e => e.1 != k))) = true)
    (h : go P l (.d σ1) f G (fun f G => wild P o.op (fget f) G fun x G => go P l (.d σ2) (fput f o.dst x) G (fun f G => Q .normal f G))) : AW P N (.region id l.toArray true) Q f G := by
  simp only [Bool.and_eq_true] at ho
  obtain ⟨ho, hs1, hs2⟩ := ho
  have hD : rgDW P l k (σ1 ++ (k, false) :: σ2) f G (fun f G => Q .normal f G) := by
    have h : rgD P l σ1 f G (fun f G => wild P o.op (fget f) G fun x G => rgD P l σ2 (fput f o.dst x) G (fun f G => Q .normal f G)) := h
    have mono : ∀ (σ : List (Nat × Bool)) (f : Frame) (G : Heap), σ.all (fun e => e.1 != k) = true → rgD P l σ f G (fun f G => Q .normal f G) → rgDW P l k σ f G (fun f G => Q .normal f G) := fun σ f G h1 h2 => by
      have := rgDW_of (P := P) (ops := l) (k := k) (K := fun f G => Q .normal f G) (σ2 := []) h1 h2
      rwa [List.append_nil] at this
    refine rgDW_of hs1 ?_
    have step : ∀ (f : Frame) (G : Heap), (wild P o.op (fget f) G fun x G => rgD P l σ2 (fput f o.dst x) G (fun f G => Q .normal f G)) → rgDW P l k ((k, false) :: σ2) f G (fun f G => Q .normal f G) := fun f G h => by
      unfold rgDW
      rw [hl]
      simp only [if_pos]
      obtain ⟨S, h1, h2⟩ := h
      exact ⟨S, h1, fun x G' hs => mono _ _ _ hs2 (h2 x G' hs)⟩
    exact rgD_mono step h
  intro E M w a hm hr hn hdf
  simp only [ordOkW, Bool.and_eq_true, beq_iff_eq] at ho
  have hany := rgDW_any ho.2 hD
  refine wp_region_any hmx ?_
  rw [← ho.1]
  refine anyAW_ok (N := N) (E := E) (M := M) (k := k) (fun o' h' => by have : l[k]? = some o' := by simpa using h'
                                                                       rw [hl] at this; cases this; exact hg) (fun i o hi => ?_) (by rw [ho.1]; rw [ho.1] at hany; exact hany) hm.drew hr hn hdf fun M' f' G' a' w' k1 k2 k3 k4 k5 k6 => ?_
  · have := List.all_eq_true.1 hd o (by simp at hi; exact List.mem_of_getElem? hi)
    exact this
  · obtain ⟨f2, rfl, hq⟩ := k6
    exact ⟨M', f2, G', k1, k2, k3, k4, k5, hq⟩
theorem aw_srw {id : Nat} {l : List Oper} {c : Code} (σ1 : List (Nat × Bool)) (k : Nat) (σ2 : List (Nat × Bool)) {o : Oper} (hmx : P.follows .mixedOrders = true) (hl : l[k]? = some o) (hg : o.guard = none) (hd : l.all (dstOk N) = true) (ho : (ordOkW l.toArray k (σ1 ++ (k, false) :: σ2) && (σ1.all (fun e => e.1 != k) && σ2.all (fun e => e.1 != k))) = true)
    (h : go P l (.d σ1) f G (fun f G => wild P o.op (fget f) G fun x G => go P l (.d σ2) (fput f o.dst x) G (fun f G => AW P N c Q f G))) : AW P N (.seq (.region id l.toArray true) c) Q f G :=
  aw_seq' (aw_rgw σ1 k σ2 hmx hl hg hd ho h)
end
end Go.Proofs.YtclmcpbanaojfaaV

/- Closed facts about the program's types, each evaluated by the kernel; no conditions. -/
namespace Go.Proofs.Ytclmcpbanaojfaa
open Go.Proofs.YtclmcpbanaojfaaV
theorem mixed : Try.prog.follows .mixedOrders = true := by kernel_rfl
@[go_sem] theorem ty_ag102 : tagg Try.prog 102 = some true := by kernel_rfl
@[go_sem] theorem ty_ag107 : tagg Try.prog 107 = some false := by kernel_rfl
@[go_sem] theorem ty_ag108 : tagg Try.prog 108 = some false := by kernel_rfl
@[go_sem] theorem ty_ag110 : tagg Try.prog 110 = some true := by kernel_rfl
@[go_sem] theorem ty_ag114 : tagg Try.prog 114 = some true := by kernel_rfl
@[go_sem] theorem ty_ag126 : tagg Try.prog 126 = some true := by kernel_rfl
@[go_sem] theorem ty_ag127 : tagg Try.prog 127 = some false := by kernel_rfl
@[go_sem] theorem ty_ag129 : tagg Try.prog 129 = some true := by kernel_rfl
@[go_sem] theorem ty_ag133 : tagg Try.prog 133 = some false := by kernel_rfl
@[go_sem] theorem ty_ag135 : tagg Try.prog 135 = some true := by kernel_rfl
@[go_sem] theorem ty_ag139 : tagg Try.prog 139 = some true := by kernel_rfl
@[go_sem] theorem ty_ag140 : tagg Try.prog 140 = some false := by kernel_rfl
@[go_sem] theorem ty_ag142 : tagg Try.prog 142 = some true := by kernel_rfl
@[go_sem] theorem ty_ag147 : tagg Try.prog 147 = some false := by kernel_rfl
@[go_sem] theorem ty_ag149 : tagg Try.prog 149 = some true := by kernel_rfl
@[go_sem] theorem ty_ag153 : tagg Try.prog 153 = some true := by kernel_rfl
@[go_sem] theorem ty_ag155 : tagg Try.prog 155 = some false := by kernel_rfl
@[go_sem] theorem ty_ag159 : tagg Try.prog 159 = some false := by kernel_rfl
@[go_sem] theorem ty_ag161 : tagg Try.prog 161 = some true := by kernel_rfl
@[go_sem] theorem ty_ag170 : tagg Try.prog 170 = some true := by kernel_rfl
@[go_sem] theorem ty_ag178 : tagg Try.prog 178 = some false := by kernel_rfl
@[go_sem] theorem ty_ag180 : tagg Try.prog 180 = some true := by kernel_rfl
@[go_sem] theorem ty_ag183 : tagg Try.prog 183 = some true := by kernel_rfl
@[go_sem] theorem ty_ag186 : tagg Try.prog 186 = some false := by kernel_rfl
@[go_sem] theorem ty_ag187 : tagg Try.prog 187 = some false := by kernel_rfl
@[go_sem] theorem ty_ag192 : tagg Try.prog 192 = some false := by kernel_rfl
@[go_sem] theorem ty_ag194 : tagg Try.prog 194 = some true := by kernel_rfl
@[go_sem] theorem ty_ag196 : tagg Try.prog 196 = some true := by kernel_rfl
@[go_sem] theorem ty_ag198 : tagg Try.prog 198 = some true := by kernel_rfl
@[go_sem] theorem ty_ag200 : tagg Try.prog 200 = some true := by kernel_rfl
@[go_sem] theorem ty_ag207 : tagg Try.prog 207 = some false := by kernel_rfl
@[go_sem] theorem ty_ag208 : tagg Try.prog 208 = some false := by kernel_rfl
@[go_sem] theorem ty_ag213 : tagg Try.prog 213 = some true := by kernel_rfl
@[go_sem] theorem ty_ag224 : tagg Try.prog 224 = some false := by kernel_rfl
@[go_sem] theorem ty_ag23 : tagg Try.prog 23 = some false := by kernel_rfl
@[go_sem] theorem ty_ag235 : tagg Try.prog 235 = some false := by kernel_rfl
@[go_sem] theorem ty_ag238 : tagg Try.prog 238 = some true := by kernel_rfl
@[go_sem] theorem ty_ag24 : tagg Try.prog 24 = some false := by kernel_rfl
@[go_sem] theorem ty_ag240 : tagg Try.prog 240 = some false := by kernel_rfl
@[go_sem] theorem ty_ag241 : tagg Try.prog 241 = some false := by kernel_rfl
@[go_sem] theorem ty_ag242 : tagg Try.prog 242 = some false := by kernel_rfl
@[go_sem] theorem ty_ag245 : tagg Try.prog 245 = some false := by kernel_rfl
@[go_sem] theorem ty_ag246 : tagg Try.prog 246 = some false := by kernel_rfl
@[go_sem] theorem ty_ag247 : tagg Try.prog 247 = some false := by kernel_rfl
@[go_sem] theorem ty_ag249 : tagg Try.prog 249 = some true := by kernel_rfl
@[go_sem] theorem ty_ag25 : tagg Try.prog 25 = some false := by kernel_rfl
@[go_sem] theorem ty_ag252 : tagg Try.prog 252 = some false := by kernel_rfl
@[go_sem] theorem ty_ag253 : tagg Try.prog 253 = some false := by kernel_rfl
@[go_sem] theorem ty_ag258 : tagg Try.prog 258 = some false := by kernel_rfl
@[go_sem] theorem ty_ag259 : tagg Try.prog 259 = some false := by kernel_rfl
@[go_sem] theorem ty_ag26 : tagg Try.prog 26 = some false := by kernel_rfl
@[go_sem] theorem ty_ag260 : tagg Try.prog 260 = some false := by kernel_rfl
@[go_sem] theorem ty_ag261 : tagg Try.prog 261 = some false := by kernel_rfl
@[go_sem] theorem ty_ag262 : tagg Try.prog 262 = some false := by kernel_rfl
@[go_sem] theorem ty_ag263 : tagg Try.prog 263 = some false := by kernel_rfl
@[go_sem] theorem ty_ag265 : tagg Try.prog 265 = some true := by kernel_rfl
@[go_sem] theorem ty_ag267 : tagg Try.prog 267 = some true := by kernel_rfl
@[go_sem] theorem ty_ag268 : tagg Try.prog 268 = some false := by kernel_rfl
@[go_sem] theorem ty_ag269 : tagg Try.prog 269 = some false := by kernel_rfl
@[go_sem] theorem ty_ag27 : tagg Try.prog 27 = some false := by kernel_rfl
@[go_sem] theorem ty_ag270 : tagg Try.prog 270 = some false := by kernel_rfl
@[go_sem] theorem ty_ag273 : tagg Try.prog 273 = some false := by kernel_rfl
@[go_sem] theorem ty_ag275 : tagg Try.prog 275 = some false := by kernel_rfl
@[go_sem] theorem ty_ag276 : tagg Try.prog 276 = some false := by kernel_rfl
@[go_sem] theorem ty_ag279 : tagg Try.prog 279 = some false := by kernel_rfl
@[go_sem] theorem ty_ag284 : tagg Try.prog 284 = some false := by kernel_rfl
@[go_sem] theorem ty_ag288 : tagg Try.prog 288 = some false := by kernel_rfl
@[go_sem] theorem ty_ag289 : tagg Try.prog 289 = some false := by kernel_rfl
@[go_sem] theorem ty_ag29 : tagg Try.prog 29 = some true := by kernel_rfl
@[go_sem] theorem ty_ag291 : tagg Try.prog 291 = some true := by kernel_rfl
@[go_sem] theorem ty_ag295 : tagg Try.prog 295 = some false := by kernel_rfl
@[go_sem] theorem ty_ag297 : tagg Try.prog 297 = some true := by kernel_rfl
@[go_sem] theorem ty_ag3 : tagg Try.prog 3 = some false := by kernel_rfl
@[go_sem] theorem ty_ag30 : tagg Try.prog 30 = some false := by kernel_rfl
@[go_sem] theorem ty_ag304 : tagg Try.prog 304 = some false := by kernel_rfl
@[go_sem] theorem ty_ag308 : tagg Try.prog 308 = some true := by kernel_rfl
@[go_sem] theorem ty_ag319 : tagg Try.prog 319 = some false := by kernel_rfl
@[go_sem] theorem ty_ag32 : tagg Try.prog 32 = some true := by kernel_rfl
@[go_sem] theorem ty_ag331 : tagg Try.prog 331 = some true := by kernel_rfl
@[go_sem] theorem ty_ag333 : tagg Try.prog 333 = some true := by kernel_rfl
@[go_sem] theorem ty_ag356 : tagg Try.prog 356 = some true := by kernel_rfl
@[go_sem] theorem ty_ag36 : tagg Try.prog 36 = some false := by kernel_rfl
@[go_sem] theorem ty_ag365 : tagg Try.prog 365 = some true := by kernel_rfl
@[go_sem] theorem ty_ag367 : tagg Try.prog 367 = some true := by kernel_rfl
@[go_sem] theorem ty_ag37 : tagg Try.prog 37 = some false := by kernel_rfl
@[go_sem] theorem ty_ag38 : tagg Try.prog 38 = some false := by kernel_rfl
@[go_sem] theorem ty_ag382 : tagg Try.prog 382 = some true := by kernel_rfl
@[go_sem] theorem ty_ag392 : tagg Try.prog 392 = some true := by kernel_rfl
@[go_sem] theorem ty_ag4 : tagg Try.prog 4 = some false := by kernel_rfl
@[go_sem] theorem ty_ag40 : tagg Try.prog 40 = some true := by kernel_rfl
@[go_sem] theorem ty_ag404 : tagg Try.prog 404 = some false := by kernel_rfl
@[go_sem] theorem ty_ag411 : tagg Try.prog 411 = some true := by kernel_rfl
@[go_sem] theorem ty_ag42 : tagg Try.prog 42 = some true := by kernel_rfl
@[go_sem] theorem ty_ag432 : tagg Try.prog 432 = some false := by kernel_rfl
@[go_sem] theorem ty_ag466 : tagg Try.prog 466 = some false := by kernel_rfl
@[go_sem] theorem ty_ag5 : tagg Try.prog 5 = some false := by kernel_rfl
@[go_sem] theorem ty_ag51 : tagg Try.prog 51 = some false := by kernel_rfl
@[go_sem] theorem ty_ag58 : tagg Try.prog 58 = some false := by kernel_rfl
@[go_sem] theorem ty_ag59 : tagg Try.prog 59 = some false := by kernel_rfl
@[go_sem] theorem ty_ag61 : tagg Try.prog 61 = some true := by kernel_rfl
@[go_sem] theorem ty_ag78 : tagg Try.prog 78 = some false := by kernel_rfl
@[go_sem] theorem ty_ag79 : tagg Try.prog 79 = some false := by kernel_rfl
@[go_sem] theorem ty_ag80 : tagg Try.prog 80 = some false := by kernel_rfl
@[go_sem] theorem ty_ag81 : tagg Try.prog 81 = some false := by kernel_rfl
@[go_sem] theorem ty_ag82 : tagg Try.prog 82 = some false := by kernel_rfl
@[go_sem] theorem ty_ag84 : tagg Try.prog 84 = some true := by kernel_rfl
@[go_sem] theorem ty_ag89 : tagg Try.prog 89 = some false := by kernel_rfl
@[go_sem] theorem ty_ag9 : tagg Try.prog 9 = some false := by kernel_rfl
@[go_sem] theorem ty_ag91 : tagg Try.prog 91 = some true := by kernel_rfl
@[go_sem] theorem ty_ag92 : tagg Try.prog 92 = some true := by kernel_rfl
@[go_sem] theorem ty_ag98 : tagg Try.prog 98 = some true := by kernel_rfl
@[go_sem] theorem ty_by102 : tbytes Try.prog 102 = some 40 := by kernel_rfl
@[go_sem] theorem ty_by107 : tbytes Try.prog 107 = some 24 := by kernel_rfl
@[go_sem] theorem ty_by110 : tbytes Try.prog 110 = some 56 := by kernel_rfl
@[go_sem] theorem ty_by114 : tbytes Try.prog 114 = some 56 := by kernel_rfl
@[go_sem] theorem ty_by126 : tbytes Try.prog 126 = some 80 := by kernel_rfl
@[go_sem] theorem ty_by140 : tbytes Try.prog 140 = some 24 := by kernel_rfl
@[go_sem] theorem ty_by142 : tbytes Try.prog 142 = some 16 := by kernel_rfl
@[go_sem] theorem ty_by155 : tbytes Try.prog 155 = some 24 := by kernel_rfl
@[go_sem] theorem ty_by180 : tbytes Try.prog 180 = some 64 := by kernel_rfl
@[go_sem] theorem ty_by183 : tbytes Try.prog 183 = some 56 := by kernel_rfl
@[go_sem] theorem ty_by213 : tbytes Try.prog 213 = some 32 := by kernel_rfl
@[go_sem] theorem ty_by224 : tbytes Try.prog 224 = some 8 := by kernel_rfl
@[go_sem] theorem ty_by238 : tbytes Try.prog 238 = some 32 := by kernel_rfl
@[go_sem] theorem ty_by249 : tbytes Try.prog 249 = some 96 := by kernel_rfl
@[go_sem] theorem ty_by251 : tbytes Try.prog 251 = some 16 := by kernel_rfl
@[go_sem] theorem ty_by252 : tbytes Try.prog 252 = some 8 := by kernel_rfl
@[go_sem] theorem ty_by253 : tbytes Try.prog 253 = some 8 := by kernel_rfl
@[go_sem] theorem ty_by263 : tbytes Try.prog 263 = some 24 := by kernel_rfl
@[go_sem] theorem ty_by265 : tbytes Try.prog 265 = some 16 := by kernel_rfl
@[go_sem] theorem ty_by267 : tbytes Try.prog 267 = some 56 := by kernel_rfl
@[go_sem] theorem ty_by268 : tbytes Try.prog 268 = some 24 := by kernel_rfl
@[go_sem] theorem ty_by279 : tbytes Try.prog 279 = some 8 := by kernel_rfl
@[go_sem] theorem ty_by291 : tbytes Try.prog 291 = some 72 := by kernel_rfl
@[go_sem] theorem ty_by295 : tbytes Try.prog 295 = some 8 := by kernel_rfl
@[go_sem] theorem ty_by297 : tbytes Try.prog 297 = some 64 := by kernel_rfl
@[go_sem] theorem ty_by3 : tbytes Try.prog 3 = some 8 := by kernel_rfl
@[go_sem] theorem ty_by308 : tbytes Try.prog 308 = some 16 := by kernel_rfl
@[go_sem] theorem ty_by32 : tbytes Try.prog 32 = some 48 := by kernel_rfl
@[go_sem] theorem ty_by331 : tbytes Try.prog 331 = some 40 := by kernel_rfl
@[go_sem] theorem ty_by333 : tbytes Try.prog 333 = some 40 := by kernel_rfl
@[go_sem] theorem ty_by356 : tbytes Try.prog 356 = some 32 := by kernel_rfl
@[go_sem] theorem ty_by382 : tbytes Try.prog 382 = some 64 := by kernel_rfl
@[go_sem] theorem ty_by392 : tbytes Try.prog 392 = some 16 := by kernel_rfl
@[go_sem] theorem ty_by4 : tbytes Try.prog 4 = some 1 := by kernel_rfl
@[go_sem] theorem ty_by40 : tbytes Try.prog 40 = some 136 := by kernel_rfl
@[go_sem] theorem ty_by404 : tbytes Try.prog 404 = some 8 := by kernel_rfl
@[go_sem] theorem ty_by5 : tbytes Try.prog 5 = some 1 := by kernel_rfl
@[go_sem] theorem ty_by58 : tbytes Try.prog 58 = some 24 := by kernel_rfl
@[go_sem] theorem ty_by59 : tbytes Try.prog 59 = some 24 := by kernel_rfl
@[go_sem] theorem ty_by9 : tbytes Try.prog 9 = some 16 := by kernel_rfl
@[go_sem] theorem ty_by98 : tbytes Try.prog 98 = some 24 := by kernel_rfl
@[go_sem] theorem ty_fi102_0 : tfield Try.prog 102 0 = some (0, 9, 1) := by kernel_rfl
@[go_sem] theorem ty_fi102_1 : tfield Try.prog 102 1 = some (1, 9, 1) := by kernel_rfl
@[go_sem] theorem ty_fi102_2 : tfield Try.prog 102 2 = some (2, 3, 1) := by kernel_rfl
@[go_sem] theorem ty_fi110_0 : tfield Try.prog 110 0 = some (0, 3, 1) := by kernel_rfl
@[go_sem] theorem ty_fi110_1 : tfield Try.prog 110 1 = some (1, 3, 1) := by kernel_rfl
@[go_sem] theorem ty_fi110_2 : tfield Try.prog 110 2 = some (2, 9, 1) := by kernel_rfl
@[go_sem] theorem ty_fi110_3 : tfield Try.prog 110 3 = some (3, 108, 1) := by kernel_rfl
@[go_sem] theorem ty_fi114_0 : tfield Try.prog 114 0 = some (0, 3, 1) := by kernel_rfl
@[go_sem] theorem ty_fi114_1 : tfield Try.prog 114 1 = some (1, 3, 1) := by kernel_rfl
@[go_sem] theorem ty_fi114_2 : tfield Try.prog 114 2 = some (2, 9, 1) := by kernel_rfl
@[go_sem] theorem ty_fi114_3 : tfield Try.prog 114 3 = some (3, 107, 1) := by kernel_rfl
@[go_sem] theorem ty_fi126_0 : tfield Try.prog 126 0 = some (0, 59, 1) := by kernel_rfl
@[go_sem] theorem ty_fi126_1 : tfield Try.prog 126 1 = some (1, 114, 4) := by kernel_rfl
@[go_sem] theorem ty_fi129_0 : tfield Try.prog 129 0 = some (0, 4, 1) := by kernel_rfl
@[go_sem] theorem ty_fi129_1 : tfield Try.prog 129 1 = some (1, 3, 1) := by kernel_rfl
@[go_sem] theorem ty_fi129_2 : tfield Try.prog 129 2 = some (2, 126, 5) := by kernel_rfl
@[go_sem] theorem ty_fi129_3 : tfield Try.prog 129 3 = some (7, 127, 1) := by kernel_rfl
@[go_sem] theorem ty_fi129_4 : tfield Try.prog 129 4 = some (8, 127, 1) := by kernel_rfl
@[go_sem] theorem ty_fi135_0 : tfield Try.prog 135 0 = some (0, 133, 1) := by kernel_rfl
@[go_sem] theorem ty_fi135_1 : tfield Try.prog 135 1 = some (1, 59, 1) := by kernel_rfl
@[go_sem] theorem ty_fi135_2 : tfield Try.prog 135 2 = some (2, 3, 1) := by kernel_rfl
@[go_sem] theorem ty_fi135_3 : tfield Try.prog 135 3 = some (3, 3, 1) := by kernel_rfl
@[go_sem] theorem ty_fi139_0 : tfield Try.prog 139 0 = some (0, 3, 1) := by kernel_rfl
@[go_sem] theorem ty_fi139_1 : tfield Try.prog 139 1 = some (1, 3, 1) := by kernel_rfl
@[go_sem] theorem ty_fi139_2 : tfield Try.prog 139 2 = some (2, 3, 1) := by kernel_rfl
@[go_sem] theorem ty_fi139_3 : tfield Try.prog 139 3 = some (3, 3, 1) := by kernel_rfl
@[go_sem] theorem ty_fi139_4 : tfield Try.prog 139 4 = some (4, 3, 1) := by kernel_rfl
@[go_sem] theorem ty_fi142_1 : tfield Try.prog 142 1 = some (1, 3, 1) := by kernel_rfl
@[go_sem] theorem ty_fi149_0 : tfield Try.prog 149 0 = some (0, 4, 1) := by kernel_rfl
@[go_sem] theorem ty_fi149_1 : tfield Try.prog 149 1 = some (1, 59, 1) := by kernel_rfl
@[go_sem] theorem ty_fi149_2 : tfield Try.prog 149 2 = some (2, 147, 1) := by kernel_rfl
@[go_sem] theorem ty_fi149_3 : tfield Try.prog 149 3 = some (3, 59, 1) := by kernel_rfl
@[go_sem] theorem ty_fi149_4 : tfield Try.prog 149 4 = some (4, 3, 1) := by kernel_rfl
@[go_sem] theorem ty_fi153_0 : tfield Try.prog 153 0 = some (0, 3, 1) := by kernel_rfl
@[go_sem] theorem ty_fi153_1 : tfield Try.prog 153 1 = some (1, 3, 1) := by kernel_rfl
@[go_sem] theorem ty_fi153_2 : tfield Try.prog 153 2 = some (2, 3, 1) := by kernel_rfl
@[go_sem] theorem ty_fi153_3 : tfield Try.prog 153 3 = some (3, 3, 1) := by kernel_rfl
@[go_sem] theorem ty_fi161_0 : tfield Try.prog 161 0 = some (0, 159, 1) := by kernel_rfl
@[go_sem] theorem ty_fi170_0 : tfield Try.prog 170 0 = some (0, 3, 1) := by kernel_rfl
@[go_sem] theorem ty_fi170_1 : tfield Try.prog 170 1 = some (1, 3, 1) := by kernel_rfl
@[go_sem] theorem ty_fi170_2 : tfield Try.prog 170 2 = some (2, 9, 1) := by kernel_rfl
@[go_sem] theorem ty_fi180_0 : tfield Try.prog 180 0 = some (0, 9, 1) := by kernel_rfl
@[go_sem] theorem ty_fi180_1 : tfield Try.prog 180 1 = some (1, 3, 1) := by kernel_rfl
@[go_sem] theorem ty_fi180_2 : tfield Try.prog 180 2 = some (2, 3, 1) := by kernel_rfl
@[go_sem] theorem ty_fi180_3 : tfield Try.prog 180 3 = some (3, 3, 1) := by kernel_rfl
@[go_sem] theorem ty_fi180_4 : tfield Try.prog 180 4 = some (4, 178, 1) := by kernel_rfl
@[go_sem] theorem ty_fi183_0 : tfield Try.prog 183 0 = some (0, 3, 1) := by kernel_rfl
@[go_sem] theorem ty_fi183_1 : tfield Try.prog 183 1 = some (1, 3, 1) := by kernel_rfl
@[go_sem] theorem ty_fi183_2 : tfield Try.prog 183 2 = some (2, 3, 1) := by kernel_rfl
@[go_sem] theorem ty_fi183_3 : tfield Try.prog 183 3 = some (3, 3, 1) := by kernel_rfl
@[go_sem] theorem ty_fi183_4 : tfield Try.prog 183 4 = some (4, 59, 1) := by kernel_rfl
@[go_sem] theorem ty_fi189_0 : tfield Try.prog 189 0 = some (0, 29, 8) := by kernel_rfl
@[go_sem] theorem ty_fi189_1 : tfield Try.prog 189 1 = some (8, 29, 8) := by kernel_rfl
@[go_sem] theorem ty_fi189_2 : tfield Try.prog 189 2 = some (16, 186, 1) := by kernel_rfl
@[go_sem] theorem ty_fi194_0 : tfield Try.prog 194 0 = some (0, 9, 1) := by kernel_rfl
@[go_sem] theorem ty_fi194_1 : tfield Try.prog 194 1 = some (1, 36, 1) := by kernel_rfl
@[go_sem] theorem ty_fi194_2 : tfield Try.prog 194 2 = some (2, 192, 1) := by kernel_rfl
@[go_sem] theorem ty_fi196_0 : tfield Try.prog 196 0 = some (0, 9, 1) := by kernel_rfl
@[go_sem] theorem ty_fi196_1 : tfield Try.prog 196 1 = some (1, 30, 1) := by kernel_rfl
@[go_sem] theorem ty_fi198_1 : tfield Try.prog 198 1 = some (1, 26, 1) := by kernel_rfl
@[go_sem] theorem ty_fi200_2 : tfield Try.prog 200 2 = some (2, 26, 1) := by kernel_rfl
@[go_sem] theorem ty_fi210_0 : tfield Try.prog 210 0 = some (0, 208, 1) := by kernel_rfl
@[go_sem] theorem ty_fi210_1 : tfield Try.prog 210 1 = some (1, 207, 1) := by kernel_rfl
@[go_sem] theorem ty_fi213_0 : tfield Try.prog 213 0 = some (0, 58, 1) := by kernel_rfl
@[go_sem] theorem ty_fi213_1 : tfield Try.prog 213 1 = some (1, 3, 1) := by kernel_rfl
@[go_sem] theorem ty_fi226_0 : tfield Try.prog 226 0 = some (0, 84, 7) := by kernel_rfl
@[go_sem] theorem ty_fi226_1 : tfield Try.prog 226 1 = some (7, 89, 1) := by kernel_rfl
@[go_sem] theorem ty_fi226_2 : tfield Try.prog 226 2 = some (8, 3, 1) := by kernel_rfl
@[go_sem] theorem ty_fi226_3 : tfield Try.prog 226 3 = some (9, 3, 1) := by kernel_rfl
@[go_sem] theorem ty_fi238_0 : tfield Try.prog 238 0 = some (0, 3, 1) := by kernel_rfl
@[go_sem] theorem ty_fi238_1 : tfield Try.prog 238 1 = some (1, 235, 1) := by kernel_rfl
@[go_sem] theorem ty_fi244_0 : tfield Try.prog 244 0 = some (0, 241, 1) := by kernel_rfl
@[go_sem] theorem ty_fi244_1 : tfield Try.prog 244 1 = some (1, 242, 1) := by kernel_rfl
@[go_sem] theorem ty_fi249_0 : tfield Try.prog 249 0 = some (0, 245, 1) := by kernel_rfl
@[go_sem] theorem ty_fi249_1 : tfield Try.prog 249 1 = some (1, 246, 1) := by kernel_rfl
@[go_sem] theorem ty_fi249_2 : tfield Try.prog 249 2 = some (2, 59, 1) := by kernel_rfl
@[go_sem] theorem ty_fi249_3 : tfield Try.prog 249 3 = some (3, 247, 1) := by kernel_rfl
@[go_sem] theorem ty_fi251_0 : tfield Try.prog 251 0 = some (0, 3, 1) := by kernel_rfl
@[go_sem] theorem ty_fi251_1 : tfield Try.prog 251 1 = some (1, 3, 1) := by kernel_rfl
@[go_sem] theorem ty_fi255_0 : tfield Try.prog 255 0 = some (0, 140, 1) := by kernel_rfl
@[go_sem] theorem ty_fi255_1 : tfield Try.prog 255 1 = some (1, 59, 1) := by kernel_rfl
@[go_sem] theorem ty_fi255_2 : tfield Try.prog 255 2 = some (2, 253, 1) := by kernel_rfl
@[go_sem] theorem ty_fi265_0 : tfield Try.prog 265 0 = some (0, 3, 1) := by kernel_rfl
@[go_sem] theorem ty_fi265_1 : tfield Try.prog 265 1 = some (1, 3, 1) := by kernel_rfl
@[go_sem] theorem ty_fi267_0 : tfield Try.prog 267 0 = some (0, 3, 1) := by kernel_rfl
@[go_sem] theorem ty_fi267_1 : tfield Try.prog 267 1 = some (1, 3, 1) := by kernel_rfl
@[go_sem] theorem ty_fi267_2 : tfield Try.prog 267 2 = some (2, 3, 1) := by kernel_rfl
@[go_sem] theorem ty_fi267_3 : tfield Try.prog 267 3 = some (3, 3, 1) := by kernel_rfl
@[go_sem] theorem ty_fi267_4 : tfield Try.prog 267 4 = some (4, 3, 1) := by kernel_rfl
@[go_sem] theorem ty_fi267_5 : tfield Try.prog 267 5 = some (5, 3, 1) := by kernel_rfl
@[go_sem] theorem ty_fi267_6 : tfield Try.prog 267 6 = some (6, 3, 1) := by kernel_rfl
@[go_sem] theorem ty_fi278_0 : tfield Try.prog 278 0 = some (0, 59, 1) := by kernel_rfl
@[go_sem] theorem ty_fi278_1 : tfield Try.prog 278 1 = some (1, 275, 1) := by kernel_rfl
@[go_sem] theorem ty_fi278_2 : tfield Try.prog 278 2 = some (2, 276, 1) := by kernel_rfl
@[go_sem] theorem ty_fi287_0 : tfield Try.prog 287 0 = some (0, 59, 1) := by kernel_rfl
@[go_sem] theorem ty_fi287_1 : tfield Try.prog 287 1 = some (1, 3, 1) := by kernel_rfl
@[go_sem] theorem ty_fi287_2 : tfield Try.prog 287 2 = some (2, 3, 1) := by kernel_rfl
@[go_sem] theorem ty_fi287_3 : tfield Try.prog 287 3 = some (3, 4, 1) := by kernel_rfl
@[go_sem] theorem ty_fi287_4 : tfield Try.prog 287 4 = some (4, 3, 1) := by kernel_rfl
@[go_sem] theorem ty_fi29_3 : tfield Try.prog 29 3 = some (3, 23, 1) := by kernel_rfl
@[go_sem] theorem ty_fi29_4 : tfield Try.prog 29 4 = some (4, 24, 1) := by kernel_rfl
@[go_sem] theorem ty_fi29_5 : tfield Try.prog 29 5 = some (5, 25, 1) := by kernel_rfl
@[go_sem] theorem ty_fi29_6 : tfield Try.prog 29 6 = some (6, 26, 1) := by kernel_rfl
@[go_sem] theorem ty_fi29_7 : tfield Try.prog 29 7 = some (7, 27, 1) := by kernel_rfl
@[go_sem] theorem ty_fi291_0 : tfield Try.prog 291 0 = some (0, 9, 1) := by kernel_rfl
@[go_sem] theorem ty_fi291_1 : tfield Try.prog 291 1 = some (1, 3, 1) := by kernel_rfl
@[go_sem] theorem ty_fi291_2 : tfield Try.prog 291 2 = some (2, 289, 1) := by kernel_rfl
@[go_sem] theorem ty_fi291_3 : tfield Try.prog 291 3 = some (3, 59, 1) := by kernel_rfl
@[go_sem] theorem ty_fi297_0 : tfield Try.prog 297 0 = some (0, 3, 1) := by kernel_rfl
@[go_sem] theorem ty_fi297_1 : tfield Try.prog 297 1 = some (1, 110, 4) := by kernel_rfl
@[go_sem] theorem ty_fi306_0 : tfield Try.prog 306 0 = some (0, 304, 1) := by kernel_rfl
@[go_sem] theorem ty_fi306_1 : tfield Try.prog 306 1 = some (1, 58, 1) := by kernel_rfl
@[go_sem] theorem ty_fi308_0 : tfield Try.prog 308 0 = some (0, 3, 1) := by kernel_rfl
@[go_sem] theorem ty_fi308_1 : tfield Try.prog 308 1 = some (1, 4, 1) := by kernel_rfl
@[go_sem] theorem ty_fi32_0 : tfield Try.prog 32 0 = some (0, 3, 1) := by kernel_rfl
@[go_sem] theorem ty_fi32_1 : tfield Try.prog 32 1 = some (1, 9, 1) := by kernel_rfl
@[go_sem] theorem ty_fi32_2 : tfield Try.prog 32 2 = some (2, 30, 1) := by kernel_rfl
@[go_sem] theorem ty_fi326_0 : tfield Try.prog 326 0 = some (0, 58, 1) := by kernel_rfl
@[go_sem] theorem ty_fi331_0 : tfield Try.prog 331 0 = some (0, 9, 1) := by kernel_rfl
@[go_sem] theorem ty_fi331_1 : tfield Try.prog 331 1 = some (1, 3, 1) := by kernel_rfl
@[go_sem] theorem ty_fi331_2 : tfield Try.prog 331 2 = some (2, 3, 1) := by kernel_rfl
@[go_sem] theorem ty_fi331_3 : tfield Try.prog 331 3 = some (3, 4, 1) := by kernel_rfl
@[go_sem] theorem ty_fi333_0 : tfield Try.prog 333 0 = some (0, 9, 1) := by kernel_rfl
@[go_sem] theorem ty_fi333_1 : tfield Try.prog 333 1 = some (1, 9, 1) := by kernel_rfl
@[go_sem] theorem ty_fi333_2 : tfield Try.prog 333 2 = some (2, 3, 1) := by kernel_rfl
@[go_sem] theorem ty_fi344_0 : tfield Try.prog 344 0 = some (0, 58, 1) := by kernel_rfl
@[go_sem] theorem ty_fi344_1 : tfield Try.prog 344 1 = some (1, 4, 1) := by kernel_rfl
@[go_sem] theorem ty_fi356_0 : tfield Try.prog 356 0 = some (0, 3, 1) := by kernel_rfl
@[go_sem] theorem ty_fi356_1 : tfield Try.prog 356 1 = some (1, 59, 1) := by kernel_rfl
@[go_sem] theorem ty_fi365_3 : tfield Try.prog 365 3 = some (3, 30, 1) := by kernel_rfl
@[go_sem] theorem ty_fi365_4 : tfield Try.prog 365 4 = some (4, 32, 3) := by kernel_rfl
@[go_sem] theorem ty_fi365_5 : tfield Try.prog 365 5 = some (7, 40, 8) := by kernel_rfl
@[go_sem] theorem ty_fi367_0 : tfield Try.prog 367 0 = some (0, 114, 4) := by kernel_rfl
@[go_sem] theorem ty_fi367_1 : tfield Try.prog 367 1 = some (4, 40, 8) := by kernel_rfl
@[go_sem] theorem ty_fi382_0 : tfield Try.prog 382 0 = some (0, 3, 1) := by kernel_rfl
@[go_sem] theorem ty_fi382_1 : tfield Try.prog 382 1 = some (1, 3, 1) := by kernel_rfl
@[go_sem] theorem ty_fi382_2 : tfield Try.prog 382 2 = some (2, 3, 1) := by kernel_rfl
@[go_sem] theorem ty_fi382_3 : tfield Try.prog 382 3 = some (3, 3, 1) := by kernel_rfl
@[go_sem] theorem ty_fi382_4 : tfield Try.prog 382 4 = some (4, 3, 1) := by kernel_rfl
@[go_sem] theorem ty_fi382_5 : tfield Try.prog 382 5 = some (5, 3, 1) := by kernel_rfl
@[go_sem] theorem ty_fi382_6 : tfield Try.prog 382 6 = some (6, 3, 1) := by kernel_rfl
@[go_sem] theorem ty_fi382_7 : tfield Try.prog 382 7 = some (7, 252, 1) := by kernel_rfl
@[go_sem] theorem ty_fi389_0 : tfield Try.prog 389 0 = some (0, 59, 1) := by kernel_rfl
@[go_sem] theorem ty_fi389_1 : tfield Try.prog 389 1 = some (1, 4, 1) := by kernel_rfl
@[go_sem] theorem ty_fi389_2 : tfield Try.prog 389 2 = some (2, 3, 1) := by kernel_rfl
@[go_sem] theorem ty_fi389_3 : tfield Try.prog 389 3 = some (3, 155, 1) := by kernel_rfl
@[go_sem] theorem ty_fi389_4 : tfield Try.prog 389 4 = some (4, 288, 1) := by kernel_rfl
@[go_sem] theorem ty_fi392_0 : tfield Try.prog 392 0 = some (0, 3, 1) := by kernel_rfl
@[go_sem] theorem ty_fi392_1 : tfield Try.prog 392 1 = some (1, 4, 1) := by kernel_rfl
@[go_sem] theorem ty_fi40_0 : tfield Try.prog 40 0 = some (0, 3, 1) := by kernel_rfl
@[go_sem] theorem ty_fi40_4 : tfield Try.prog 40 4 = some (4, 30, 1) := by kernel_rfl
@[go_sem] theorem ty_fi40_5 : tfield Try.prog 40 5 = some (5, 37, 1) := by kernel_rfl
@[go_sem] theorem ty_fi40_6 : tfield Try.prog 40 6 = some (6, 38, 1) := by kernel_rfl
@[go_sem] theorem ty_fi406_0 : tfield Try.prog 406 0 = some (0, 170, 3) := by kernel_rfl
@[go_sem] theorem ty_fi406_1 : tfield Try.prog 406 1 = some (3, 319, 1) := by kernel_rfl
@[go_sem] theorem ty_fi406_2 : tfield Try.prog 406 2 = some (4, 3, 1) := by kernel_rfl
@[go_sem] theorem ty_fi411_0 : tfield Try.prog 411 0 = some (0, 9, 1) := by kernel_rfl
@[go_sem] theorem ty_fi411_1 : tfield Try.prog 411 1 = some (1, 4, 1) := by kernel_rfl
@[go_sem] theorem ty_fi411_2 : tfield Try.prog 411 2 = some (2, 4, 1) := by kernel_rfl
@[go_sem] theorem ty_fi42_0 : tfield Try.prog 42 0 = some (0, 9, 1) := by kernel_rfl
@[go_sem] theorem ty_fi42_1 : tfield Try.prog 42 1 = some (1, 36, 1) := by kernel_rfl
@[go_sem] theorem ty_fi42_2 : tfield Try.prog 42 2 = some (2, 30, 1) := by kernel_rfl
@[go_sem] theorem ty_fi42_3 : tfield Try.prog 42 3 = some (3, 32, 3) := by kernel_rfl
@[go_sem] theorem ty_fi42_4 : tfield Try.prog 42 4 = some (6, 40, 8) := by kernel_rfl
@[go_sem] theorem ty_fi436_0 : tfield Try.prog 436 0 = some (0, 36, 1) := by kernel_rfl
@[go_sem] theorem ty_fi436_1 : tfield Try.prog 436 1 = some (1, 30, 1) := by kernel_rfl
@[go_sem] theorem ty_fi436_2 : tfield Try.prog 436 2 = some (2, 432, 1) := by kernel_rfl
@[go_sem] theorem ty_fi61_0 : tfield Try.prog 61 0 = some (0, 3, 1) := by kernel_rfl
@[go_sem] theorem ty_fi61_1 : tfield Try.prog 61 1 = some (1, 3, 1) := by kernel_rfl
@[go_sem] theorem ty_fi61_2 : tfield Try.prog 61 2 = some (2, 58, 1) := by kernel_rfl
@[go_sem] theorem ty_fi61_3 : tfield Try.prog 61 3 = some (3, 59, 1) := by kernel_rfl
@[go_sem] theorem ty_fi74_0 : tfield Try.prog 74 0 = some (0, 9, 1) := by kernel_rfl
@[go_sem] theorem ty_fi74_1 : tfield Try.prog 74 1 = some (1, 3, 1) := by kernel_rfl
@[go_sem] theorem ty_fi84_0 : tfield Try.prog 84 0 = some (0, 36, 1) := by kernel_rfl
@[go_sem] theorem ty_fi84_1 : tfield Try.prog 84 1 = some (1, 59, 1) := by kernel_rfl
@[go_sem] theorem ty_fi84_2 : tfield Try.prog 84 2 = some (2, 78, 1) := by kernel_rfl
@[go_sem] theorem ty_fi84_3 : tfield Try.prog 84 3 = some (3, 79, 1) := by kernel_rfl
@[go_sem] theorem ty_fi84_4 : tfield Try.prog 84 4 = some (4, 80, 1) := by kernel_rfl
@[go_sem] theorem ty_fi84_5 : tfield Try.prog 84 5 = some (5, 81, 1) := by kernel_rfl
@[go_sem] theorem ty_fi84_6 : tfield Try.prog 84 6 = some (6, 82, 1) := by kernel_rfl
@[go_sem] theorem ty_fi91_0 : tfield Try.prog 91 0 = some (0, 3, 1) := by kernel_rfl
@[go_sem] theorem ty_fi91_1 : tfield Try.prog 91 1 = some (1, 3, 1) := by kernel_rfl
@[go_sem] theorem ty_fi91_3 : tfield Try.prog 91 3 = some (3, 3, 1) := by kernel_rfl
@[go_sem] theorem ty_fi91_4 : tfield Try.prog 91 4 = some (4, 4, 1) := by kernel_rfl
@[go_sem] theorem ty_fi98_0 : tfield Try.prog 98 0 = some (0, 9, 1) := by kernel_rfl
@[go_sem] theorem ty_fi98_1 : tfield Try.prog 98 1 = some (1, 3, 1) := by kernel_rfl
@[go_sem] theorem ty_fs142 : flatS Try.prog 142 = some [(0, 3), (1, 3)] := by kernel_rfl
@[go_sem] theorem ty_fs98 : flatS Try.prog 98 = some [(0, 9), (1, 3)] := by kernel_rfl
@[go_sem] theorem ty_in3 : intKindOf Try.prog 3 = some .i64 := by kernel_rfl
@[go_sem] theorem ty_in409 : intKindOf Try.prog 409 = some .u64 := by kernel_rfl
@[go_sem] theorem ty_in439 : intKindOf Try.prog 439 = some .u32 := by kernel_rfl
@[go_sem] theorem ty_in466 : intKindOf Try.prog 466 = some .u64 := by kernel_rfl
@[go_sem] theorem ty_in5 : intKindOf Try.prog 5 = some .u8 := by kernel_rfl
@[go_sem] theorem ty_in93 : intKindOf Try.prog 93 = some .u64 := by kernel_rfl
@[go_sem] theorem ty_ka92 : keyArr Try.prog 92 = some (.i64, 2) := by kernel_rfl
@[go_sem] theorem ty_ki107 : kindIs Try.prog 107 isSliceT = true := by kernel_rfl
@[go_sem] theorem ty_ki108 : kindIs Try.prog 108 isSliceT = true := by kernel_rfl
@[go_sem] theorem ty_ki127 : kindIs Try.prog 127 isSliceT = true := by kernel_rfl
@[go_sem] theorem ty_ki132 : kindIs Try.prog 132 isSliceT = true := by kernel_rfl
@[go_sem] theorem ty_ki133 : kindIs Try.prog 133 isSliceT = true := by kernel_rfl
@[go_sem] theorem ty_ki140 : kindIs Try.prog 140 isSliceT = true := by kernel_rfl
@[go_sem] theorem ty_ki146 : kindIs Try.prog 146 isSliceT = true := by kernel_rfl
@[go_sem] theorem ty_ki147 : kindIs Try.prog 147 isSliceT = true := by kernel_rfl
@[go_sem] theorem ty_ki155 : kindIs Try.prog 155 isSliceT = true := by kernel_rfl
@[go_sem] theorem ty_ki159 : kindIs Try.prog 159 isSliceT = true := by kernel_rfl
@[go_sem] theorem ty_ki166 : kindIs Try.prog 166 isSliceT = true := by kernel_rfl
@[go_sem] theorem ty_ki178 : kindIs Try.prog 178 isSliceT = true := by kernel_rfl
@[go_sem] theorem ty_ki186 : kindIs Try.prog 186 isMapT = true := by kernel_rfl
@[go_sem] theorem ty_ki192 : kindIs Try.prog 192 isSliceT = true := by kernel_rfl
@[go_sem] theorem ty_ki207 : kindIs Try.prog 207 isMapT = true := by kernel_rfl
@[go_sem] theorem ty_ki208 : kindIs Try.prog 208 isSliceT = true := by kernel_rfl
@[go_sem] theorem ty_ki216 : kindIs Try.prog 216 isPtrT = true := by kernel_rfl
@[go_sem] theorem ty_ki218 : kindIs Try.prog 218 isSliceT = true := by kernel_rfl
@[go_sem] theorem ty_ki224 : kindIs Try.prog 224 isMapT = true := by kernel_rfl
@[go_sem] theorem ty_ki23 : kindIs Try.prog 23 isSliceT = true := by kernel_rfl
@[go_sem] theorem ty_ki234 : kindIs Try.prog 234 isSliceT = true := by kernel_rfl
@[go_sem] theorem ty_ki235 : kindIs Try.prog 235 isSliceT = true := by kernel_rfl
@[go_sem] theorem ty_ki24 : kindIs Try.prog 24 isSliceT = true := by kernel_rfl
@[go_sem] theorem ty_ki241 : kindIs Try.prog 241 isSliceT = true := by kernel_rfl
@[go_sem] theorem ty_ki242 : kindIs Try.prog 242 isMapT = true := by kernel_rfl
@[go_sem] theorem ty_ki245 : kindIs Try.prog 245 isSliceT = true := by kernel_rfl
@[go_sem] theorem ty_ki246 : kindIs Try.prog 246 isSliceT = true := by kernel_rfl
@[go_sem] theorem ty_ki247 : kindIs Try.prog 247 isSliceT = true := by kernel_rfl
@[go_sem] theorem ty_ki25 : kindIs Try.prog 25 isSliceT = true := by kernel_rfl
@[go_sem] theorem ty_ki252 : kindIs Try.prog 252 isPtrT = true := by kernel_rfl
@[go_sem] theorem ty_ki253 : kindIs Try.prog 253 isMapT = true := by kernel_rfl
@[go_sem] theorem ty_ki259 : kindIs Try.prog 259 isSliceT = true := by kernel_rfl
@[go_sem] theorem ty_ki26 : kindIs Try.prog 26 isSliceT = true := by kernel_rfl
@[go_sem] theorem ty_ki260 : kindIs Try.prog 260 isSliceT = true := by kernel_rfl
@[go_sem] theorem ty_ki261 : kindIs Try.prog 261 isSliceT = true := by kernel_rfl
@[go_sem] theorem ty_ki262 : kindIs Try.prog 262 isMapT = true := by kernel_rfl
@[go_sem] theorem ty_ki263 : kindIs Try.prog 263 isSliceT = true := by kernel_rfl
@[go_sem] theorem ty_ki268 : kindIs Try.prog 268 isSliceT = true := by kernel_rfl
@[go_sem] theorem ty_ki27 : kindIs Try.prog 27 isSliceT = true := by kernel_rfl
@[go_sem] theorem ty_ki275 : kindIs Try.prog 275 isMapT = true := by kernel_rfl
@[go_sem] theorem ty_ki276 : kindIs Try.prog 276 isSliceT = true := by kernel_rfl
@[go_sem] theorem ty_ki284 : kindIs Try.prog 284 isMapT = true := by kernel_rfl
@[go_sem] theorem ty_ki288 : kindIs Try.prog 288 isSliceT = true := by kernel_rfl
@[go_sem] theorem ty_ki289 : kindIs Try.prog 289 isSliceT = true := by kernel_rfl
@[go_sem] theorem ty_ki295 : kindIs Try.prog 295 isMapT = true := by kernel_rfl
@[go_sem] theorem ty_ki30 : kindIs Try.prog 30 isSliceT = true := by kernel_rfl
@[go_sem] theorem ty_ki304 : kindIs Try.prog 304 isPtrT = true := by kernel_rfl
@[go_sem] theorem ty_ki309 : kindIs Try.prog 309 isSliceT = true := by kernel_rfl
@[go_sem] theorem ty_ki319 : kindIs Try.prog 319 isSliceT = true := by kernel_rfl
@[go_sem] theorem ty_ki348 : kindIs Try.prog 348 isSliceT = true := by kernel_rfl
@[go_sem] theorem ty_ki353 : kindIs Try.prog 353 isSliceT = true := by kernel_rfl
@[go_sem] theorem ty_ki36 : kindIs Try.prog 36 isSliceT = true := by kernel_rfl
@[go_sem] theorem ty_ki37 : kindIs Try.prog 37 isSliceT = true := by kernel_rfl
@[go_sem] theorem ty_ki38 : kindIs Try.prog 38 isSliceT = true := by kernel_rfl
@[go_sem] theorem ty_ki390 : kindIs Try.prog 390 isSliceT = true := by kernel_rfl
@[go_sem] theorem ty_ki4 : kindIs Try.prog 4 isBoolT = true := by kernel_rfl
@[go_sem] theorem ty_ki432 : kindIs Try.prog 432 isPtrT = true := by kernel_rfl
@[go_sem] theorem ty_ki50 : kindIs Try.prog 50 isSliceT = true := by kernel_rfl
@[go_sem] theorem ty_ki54 : kindIs Try.prog 54 isMapT = true := by kernel_rfl
@[go_sem] theorem ty_ki58 : kindIs Try.prog 58 isSliceT = true := by kernel_rfl
@[go_sem] theorem ty_ki59 : kindIs Try.prog 59 isSliceT = true := by kernel_rfl
@[go_sem] theorem ty_ki72 : kindIs Try.prog 72 isPtrT = true := by kernel_rfl
@[go_sem] theorem ty_ki78 : kindIs Try.prog 78 isSliceT = true := by kernel_rfl
@[go_sem] theorem ty_ki79 : kindIs Try.prog 79 isSliceT = true := by kernel_rfl
@[go_sem] theorem ty_ki80 : kindIs Try.prog 80 isSliceT = true := by kernel_rfl
@[go_sem] theorem ty_ki81 : kindIs Try.prog 81 isSliceT = true := by kernel_rfl
@[go_sem] theorem ty_ki82 : kindIs Try.prog 82 isSliceT = true := by kernel_rfl
@[go_sem] theorem ty_ki85 : kindIs Try.prog 85 isSliceT = true := by kernel_rfl
@[go_sem] theorem ty_ki89 : kindIs Try.prog 89 isMapT = true := by kernel_rfl
@[go_sem] theorem ty_ki96 : kindIs Try.prog 96 isSliceT = true := by kernel_rfl
@[go_sem] theorem ty_kn3 : kindN Try.prog 3 = some 1 := by kernel_rfl
@[go_sem] theorem ty_kn9 : kindN Try.prog 9 = some 2 := by kernel_rfl
@[go_sem] theorem ty_mp186 : tmap Try.prog 186 = some (9, (.bool false)) := by kernel_rfl
@[go_sem] theorem ty_mp207 : tmap Try.prog 207 = some (9, (.int .i64 0)) := by kernel_rfl
@[go_sem] theorem ty_mp224 : tmap Try.prog 224 = some (3, (.int .i64 0)) := by kernel_rfl
@[go_sem] theorem ty_mp242 : tmap Try.prog 242 = some (92, (.sl [] true .full)) := by kernel_rfl
@[go_sem] theorem ty_mp253 : tmap Try.prog 253 = some (92, (.int .i64 0)) := by kernel_rfl
@[go_sem] theorem ty_mp262 : tmap Try.prog 262 = some (92, (.sl [] true .full)) := by kernel_rfl
@[go_sem] theorem ty_mp275 : tmap Try.prog 275 = some (92, (.sl [] true .full)) := by kernel_rfl
@[go_sem] theorem ty_mp284 : tmap Try.prog 284 = some (92, .nilp) := by kernel_rfl
@[go_sem] theorem ty_mp295 : tmap Try.prog 295 = some (3, (.bool false)) := by kernel_rfl
@[go_sem] theorem ty_mp54 : tmap Try.prog 54 = some (3, .nilp) := by kernel_rfl
@[go_sem] theorem ty_mp89 : tmap Try.prog 89 = some (92, (.sl [] true .full)) := by kernel_rfl
@[go_sem] theorem ty_ni9 : kindIs Try.prog 9 (fun d => !isIfaceT d) = true := by kernel_rfl
@[go_sem] theorem ty_pl102 : tplaces Try.prog 102 = some [(0, 1), (1, 1), (2, 1)] := by kernel_rfl
@[go_sem] theorem ty_pl110 : tplaces Try.prog 110 = some [(0, 1), (1, 1), (2, 1), (3, 1)] := by kernel_rfl
@[go_sem] theorem ty_pl114 : tplaces Try.prog 114 = some [(0, 1), (1, 1), (2, 1), (3, 1)] := by kernel_rfl
@[go_sem] theorem ty_pl126 : tplaces Try.prog 126 = some [(0, 1), (1, 4)] := by kernel_rfl
@[go_sem] theorem ty_pl129 : tplaces Try.prog 129 = some [(0, 1), (1, 1), (2, 5), (7, 1), (8, 1)] := by kernel_rfl
@[go_sem] theorem ty_pl135 : tplaces Try.prog 135 = some [(0, 1), (1, 1), (2, 1), (3, 1)] := by kernel_rfl
@[go_sem] theorem ty_pl139 : tplaces Try.prog 139 = some [(0, 1), (1, 1), (2, 1), (3, 1), (4, 1)] := by kernel_rfl
@[go_sem] theorem ty_pl142 : tplaces Try.prog 142 = some [(0, 1), (1, 1)] := by kernel_rfl
@[go_sem] theorem ty_pl149 : tplaces Try.prog 149 = some [(0, 1), (1, 1), (2, 1), (3, 1), (4, 1)] := by kernel_rfl
@[go_sem] theorem ty_pl153 : tplaces Try.prog 153 = some [(0, 1), (1, 1), (2, 1), (3, 1)] := by kernel_rfl
@[go_sem] theorem ty_pl161 : tplaces Try.prog 161 = some [(0, 1)] := by kernel_rfl
@[go_sem] theorem ty_pl170 : tplaces Try.prog 170 = some [(0, 1), (1, 1), (2, 1)] := by kernel_rfl
@[go_sem] theorem ty_pl180 : tplaces Try.prog 180 = some [(0, 1), (1, 1), (2, 1), (3, 1), (4, 1)] := by kernel_rfl
@[go_sem] theorem ty_pl183 : tplaces Try.prog 183 = some [(0, 1), (1, 1), (2, 1), (3, 1), (4, 1)] := by kernel_rfl
@[go_sem] theorem ty_pl189 : tplaces Try.prog 189 = some [(0, 8), (8, 8), (16, 1)] := by kernel_rfl
@[go_sem] theorem ty_pl194 : tplaces Try.prog 194 = some [(0, 1), (1, 1), (2, 1)] := by kernel_rfl
@[go_sem] theorem ty_pl210 : tplaces Try.prog 210 = some [(0, 1), (1, 1)] := by kernel_rfl
@[go_sem] theorem ty_pl213 : tplaces Try.prog 213 = some [(0, 1), (1, 1)] := by kernel_rfl
@[go_sem] theorem ty_pl226 : tplaces Try.prog 226 = some [(0, 7), (7, 1), (8, 1), (9, 1)] := by kernel_rfl
@[go_sem] theorem ty_pl238 : tplaces Try.prog 238 = some [(0, 1), (1, 1)] := by kernel_rfl
@[go_sem] theorem ty_pl244 : tplaces Try.prog 244 = some [(0, 1), (1, 1)] := by kernel_rfl
@[go_sem] theorem ty_pl249 : tplaces Try.prog 249 = some [(0, 1), (1, 1), (2, 1), (3, 1)] := by kernel_rfl
@[go_sem] theorem ty_pl251 : tplaces Try.prog 251 = some [(0, 1), (1, 1)] := by kernel_rfl
@[go_sem] theorem ty_pl255 : tplaces Try.prog 255 = some [(0, 1), (1, 1), (2, 1)] := by kernel_rfl
@[go_sem] theorem ty_pl265 : tplaces Try.prog 265 = some [(0, 1), (1, 1)] := by kernel_rfl
@[go_sem] theorem ty_pl267 : tplaces Try.prog 267 = some [(0, 1), (1, 1), (2, 1), (3, 1), (4, 1), (5, 1), (6, 1)] := by kernel_rfl
@[go_sem] theorem ty_pl278 : tplaces Try.prog 278 = some [(0, 1), (1, 1), (2, 1)] := by kernel_rfl
@[go_sem] theorem ty_pl287 : tplaces Try.prog 287 = some [(0, 1), (1, 1), (2, 1), (3, 1), (4, 1)] := by kernel_rfl
@[go_sem] theorem ty_pl29 : tplaces Try.prog 29 = some [(0, 1), (1, 1), (2, 1), (3, 1), (4, 1), (5, 1), (6, 1), (7, 1)] := by kernel_rfl
@[go_sem] theorem ty_pl291 : tplaces Try.prog 291 = some [(0, 1), (1, 1), (2, 1), (3, 1)] := by kernel_rfl
@[go_sem] theorem ty_pl297 : tplaces Try.prog 297 = some [(0, 1), (1, 4)] := by kernel_rfl
@[go_sem] theorem ty_pl308 : tplaces Try.prog 308 = some [(0, 1), (1, 1)] := by kernel_rfl
@[go_sem] theorem ty_pl32 : tplaces Try.prog 32 = some [(0, 1), (1, 1), (2, 1)] := by kernel_rfl
@[go_sem] theorem ty_pl326 : tplaces Try.prog 326 = some [(0, 1)] := by kernel_rfl
@[go_sem] theorem ty_pl331 : tplaces Try.prog 331 = some [(0, 1), (1, 1), (2, 1), (3, 1)] := by kernel_rfl
@[go_sem] theorem ty_pl333 : tplaces Try.prog 333 = some [(0, 1), (1, 1), (2, 1)] := by kernel_rfl
@[go_sem] theorem ty_pl344 : tplaces Try.prog 344 = some [(0, 1), (1, 1)] := by kernel_rfl
@[go_sem] theorem ty_pl356 : tplaces Try.prog 356 = some [(0, 1), (1, 1)] := by kernel_rfl
@[go_sem] theorem ty_pl382 : tplaces Try.prog 382 = some [(0, 1), (1, 1), (2, 1), (3, 1), (4, 1), (5, 1), (6, 1), (7, 1)] := by kernel_rfl
@[go_sem] theorem ty_pl389 : tplaces Try.prog 389 = some [(0, 1), (1, 1), (2, 1), (3, 1), (4, 1)] := by kernel_rfl
@[go_sem] theorem ty_pl392 : tplaces Try.prog 392 = some [(0, 1), (1, 1)] := by kernel_rfl
@[go_sem] theorem ty_pl406 : tplaces Try.prog 406 = some [(0, 3), (3, 1), (4, 1)] := by kernel_rfl
@[go_sem] theorem ty_pl411 : tplaces Try.prog 411 = some [(0, 1), (1, 1), (2, 1)] := by kernel_rfl
@[go_sem] theorem ty_pl42 : tplaces Try.prog 42 = some [(0, 1), (1, 1), (2, 1), (3, 3), (6, 8)] := by kernel_rfl
@[go_sem] theorem ty_pl436 : tplaces Try.prog 436 = some [(0, 1), (1, 1), (2, 1)] := by kernel_rfl
@[go_sem] theorem ty_pl74 : tplaces Try.prog 74 = some [(0, 1), (1, 1)] := by kernel_rfl
@[go_sem] theorem ty_pl84 : tplaces Try.prog 84 = some [(0, 1), (1, 1), (2, 1), (3, 1), (4, 1), (5, 1), (6, 1)] := by kernel_rfl
@[go_sem] theorem ty_pl92 : tplaces Try.prog 92 = some [(0, 1), (1, 1)] := by kernel_rfl
@[go_sem] theorem ty_pl98 : tplaces Try.prog 98 = some [(0, 1), (1, 1)] := by kernel_rfl
@[go_sem] theorem ty_sl107 : tslice Try.prog 107 = some (114, 4) := by kernel_rfl
@[go_sem] theorem ty_sl108 : tslice Try.prog 108 = some (110, 4) := by kernel_rfl
@[go_sem] theorem ty_sl127 : tslice Try.prog 127 = some (129, 9) := by kernel_rfl
@[go_sem] theorem ty_sl132 : tslice Try.prog 132 = some (139, 5) := by kernel_rfl
@[go_sem] theorem ty_sl133 : tslice Try.prog 133 = some (140, 1) := by kernel_rfl
@[go_sem] theorem ty_sl140 : tslice Try.prog 140 = some (142, 2) := by kernel_rfl
@[go_sem] theorem ty_sl146 : tslice Try.prog 146 = some (153, 4) := by kernel_rfl
@[go_sem] theorem ty_sl147 : tslice Try.prog 147 = some (155, 1) := by kernel_rfl
@[go_sem] theorem ty_sl155 : tslice Try.prog 155 = some (59, 1) := by kernel_rfl
@[go_sem] theorem ty_sl159 : tslice Try.prog 159 = some (291, 4) := by kernel_rfl
@[go_sem] theorem ty_sl166 : tslice Try.prog 166 = some (170, 3) := by kernel_rfl
@[go_sem] theorem ty_sl178 : tslice Try.prog 178 = some (183, 5) := by kernel_rfl
@[go_sem] theorem ty_sl192 : tslice Try.prog 192 = some (196, 2) := by kernel_rfl
@[go_sem] theorem ty_sl208 : tslice Try.prog 208 = some (213, 2) := by kernel_rfl
@[go_sem] theorem ty_sl218 : tslice Try.prog 218 = some (58, 1) := by kernel_rfl
@[go_sem] theorem ty_sl23 : tslice Try.prog 23 = some (194, 3) := by kernel_rfl
@[go_sem] theorem ty_sl234 : tslice Try.prog 234 = some (238, 2) := by kernel_rfl
@[go_sem] theorem ty_sl235 : tslice Try.prog 235 = some (126, 5) := by kernel_rfl
@[go_sem] theorem ty_sl24 : tslice Try.prog 24 = some (198, 2) := by kernel_rfl
@[go_sem] theorem ty_sl241 : tslice Try.prog 241 = some (249, 4) := by kernel_rfl
@[go_sem] theorem ty_sl245 : tslice Try.prog 245 = some (252, 1) := by kernel_rfl
@[go_sem] theorem ty_sl246 : tslice Try.prog 246 = some (251, 2) := by kernel_rfl
@[go_sem] theorem ty_sl247 : tslice Try.prog 247 = some (382, 8) := by kernel_rfl
@[go_sem] theorem ty_sl25 : tslice Try.prog 25 = some (200, 3) := by kernel_rfl
@[go_sem] theorem ty_sl258 : tslice Try.prog 258 = some (224, 1) := by kernel_rfl
@[go_sem] theorem ty_sl259 : tslice Try.prog 259 = some (253, 1) := by kernel_rfl
@[go_sem] theorem ty_sl26 : tslice Try.prog 26 = some (365, 15) := by kernel_rfl
@[go_sem] theorem ty_sl260 : tslice Try.prog 260 = some (263, 1) := by kernel_rfl
@[go_sem] theorem ty_sl261 : tslice Try.prog 261 = some (268, 1) := by kernel_rfl
@[go_sem] theorem ty_sl263 : tslice Try.prog 263 = some (265, 2) := by kernel_rfl
@[go_sem] theorem ty_sl268 : tslice Try.prog 268 = some (267, 7) := by kernel_rfl
@[go_sem] theorem ty_sl27 : tslice Try.prog 27 = some (42, 14) := by kernel_rfl
@[go_sem] theorem ty_sl276 : tslice Try.prog 276 = some (279, 1) := by kernel_rfl
@[go_sem] theorem ty_sl288 : tslice Try.prog 288 = some (4, 1) := by kernel_rfl
@[go_sem] theorem ty_sl289 : tslice Try.prog 289 = some (297, 5) := by kernel_rfl
@[go_sem] theorem ty_sl30 : tslice Try.prog 30 = some (32, 3) := by kernel_rfl
@[go_sem] theorem ty_sl309 : tslice Try.prog 309 = some (308, 2) := by kernel_rfl
@[go_sem] theorem ty_sl319 : tslice Try.prog 319 = some (404, 1) := by kernel_rfl
@[go_sem] theorem ty_sl348 : tslice Try.prog 348 = some (295, 1) := by kernel_rfl
@[go_sem] theorem ty_sl353 : tslice Try.prog 353 = some (356, 2) := by kernel_rfl
@[go_sem] theorem ty_sl36 : tslice Try.prog 36 = some (9, 1) := by kernel_rfl
@[go_sem] theorem ty_sl37 : tslice Try.prog 37 = some (40, 8) := by kernel_rfl
@[go_sem] theorem ty_sl38 : tslice Try.prog 38 = some (367, 12) := by kernel_rfl
@[go_sem] theorem ty_sl390 : tslice Try.prog 390 = some (392, 2) := by kernel_rfl
@[go_sem] theorem ty_sl50 : tslice Try.prog 50 = some (61, 4) := by kernel_rfl
@[go_sem] theorem ty_sl58 : tslice Try.prog 58 = some (5, 1) := by kernel_rfl
@[go_sem] theorem ty_sl59 : tslice Try.prog 59 = some (3, 1) := by kernel_rfl
@[go_sem] theorem ty_sl78 : tslice Try.prog 78 = some (180, 5) := by kernel_rfl
@[go_sem] theorem ty_sl79 : tslice Try.prog 79 = some (331, 4) := by kernel_rfl
@[go_sem] theorem ty_sl80 : tslice Try.prog 80 = some (102, 3) := by kernel_rfl
@[go_sem] theorem ty_sl81 : tslice Try.prog 81 = some (333, 3) := by kernel_rfl
@[go_sem] theorem ty_sl82 : tslice Try.prog 82 = some (107, 1) := by kernel_rfl
@[go_sem] theorem ty_sl85 : tslice Try.prog 85 = some (91, 5) := by kernel_rfl
@[go_sem] theorem ty_sl96 : tslice Try.prog 96 = some (98, 2) := by kernel_rfl
@[go_sem] theorem ty_st107 : isStr Try.prog 107 = false := by kernel_rfl
@[go_sem] theorem ty_st108 : isStr Try.prog 108 = false := by kernel_rfl
@[go_sem] theorem ty_st127 : isStr Try.prog 127 = false := by kernel_rfl
@[go_sem] theorem ty_st132 : isStr Try.prog 132 = false := by kernel_rfl
@[go_sem] theorem ty_st133 : isStr Try.prog 133 = false := by kernel_rfl
@[go_sem] theorem ty_st140 : isStr Try.prog 140 = false := by kernel_rfl
@[go_sem] theorem ty_st146 : isStr Try.prog 146 = false := by kernel_rfl
@[go_sem] theorem ty_st147 : isStr Try.prog 147 = false := by kernel_rfl
@[go_sem] theorem ty_st155 : isStr Try.prog 155 = false := by kernel_rfl
@[go_sem] theorem ty_st159 : isStr Try.prog 159 = false := by kernel_rfl
@[go_sem] theorem ty_st166 : isStr Try.prog 166 = false := by kernel_rfl
@[go_sem] theorem ty_st178 : isStr Try.prog 178 = false := by kernel_rfl
@[go_sem] theorem ty_st192 : isStr Try.prog 192 = false := by kernel_rfl
@[go_sem] theorem ty_st207 : isStr Try.prog 207 = false := by kernel_rfl
@[go_sem] theorem ty_st208 : isStr Try.prog 208 = false := by kernel_rfl
@[go_sem] theorem ty_st218 : isStr Try.prog 218 = false := by kernel_rfl
@[go_sem] theorem ty_st23 : isStr Try.prog 23 = false := by kernel_rfl
@[go_sem] theorem ty_st234 : isStr Try.prog 234 = false := by kernel_rfl
@[go_sem] theorem ty_st235 : isStr Try.prog 235 = false := by kernel_rfl
@[go_sem] theorem ty_st24 : isStr Try.prog 24 = false := by kernel_rfl
@[go_sem] theorem ty_st241 : isStr Try.prog 241 = false := by kernel_rfl
@[go_sem] theorem ty_st245 : isStr Try.prog 245 = false := by kernel_rfl
@[go_sem] theorem ty_st246 : isStr Try.prog 246 = false := by kernel_rfl
@[go_sem] theorem ty_st247 : isStr Try.prog 247 = false := by kernel_rfl
@[go_sem] theorem ty_st25 : isStr Try.prog 25 = false := by kernel_rfl
@[go_sem] theorem ty_st253 : isStr Try.prog 253 = false := by kernel_rfl
@[go_sem] theorem ty_st259 : isStr Try.prog 259 = false := by kernel_rfl
@[go_sem] theorem ty_st26 : isStr Try.prog 26 = false := by kernel_rfl
@[go_sem] theorem ty_st260 : isStr Try.prog 260 = false := by kernel_rfl
@[go_sem] theorem ty_st261 : isStr Try.prog 261 = false := by kernel_rfl
@[go_sem] theorem ty_st263 : isStr Try.prog 263 = false := by kernel_rfl
@[go_sem] theorem ty_st268 : isStr Try.prog 268 = false := by kernel_rfl
@[go_sem] theorem ty_st27 : isStr Try.prog 27 = false := by kernel_rfl
@[go_sem] theorem ty_st276 : isStr Try.prog 276 = false := by kernel_rfl
@[go_sem] theorem ty_st288 : isStr Try.prog 288 = false := by kernel_rfl
@[go_sem] theorem ty_st289 : isStr Try.prog 289 = false := by kernel_rfl
@[go_sem] theorem ty_st295 : isStr Try.prog 295 = false := by kernel_rfl
@[go_sem] theorem ty_st3 : isStr Try.prog 3 = false := by kernel_rfl
@[go_sem] theorem ty_st30 : isStr Try.prog 30 = false := by kernel_rfl
@[go_sem] theorem ty_st304 : isStr Try.prog 304 = false := by kernel_rfl
@[go_sem] theorem ty_st309 : isStr Try.prog 309 = false := by kernel_rfl
@[go_sem] theorem ty_st319 : isStr Try.prog 319 = false := by kernel_rfl
@[go_sem] theorem ty_st348 : isStr Try.prog 348 = false := by kernel_rfl
@[go_sem] theorem ty_st353 : isStr Try.prog 353 = false := by kernel_rfl
@[go_sem] theorem ty_st36 : isStr Try.prog 36 = false := by kernel_rfl
@[go_sem] theorem ty_st37 : isStr Try.prog 37 = false := by kernel_rfl
@[go_sem] theorem ty_st38 : isStr Try.prog 38 = false := by kernel_rfl
@[go_sem] theorem ty_st390 : isStr Try.prog 390 = false := by kernel_rfl
@[go_sem] theorem ty_st409 : isStr Try.prog 409 = false := by kernel_rfl
@[go_sem] theorem ty_st437 : isStr Try.prog 437 = false := by kernel_rfl
@[go_sem] theorem ty_st439 : isStr Try.prog 439 = false := by kernel_rfl
@[go_sem] theorem ty_st466 : isStr Try.prog 466 = false := by kernel_rfl
@[go_sem] theorem ty_st5 : isStr Try.prog 5 = false := by kernel_rfl
@[go_sem] theorem ty_st50 : isStr Try.prog 50 = false := by kernel_rfl
@[go_sem] theorem ty_st54 : isStr Try.prog 54 = false := by kernel_rfl
@[go_sem] theorem ty_st58 : isStr Try.prog 58 = false := by kernel_rfl
@[go_sem] theorem ty_st59 : isStr Try.prog 59 = false := by kernel_rfl
@[go_sem] theorem ty_st78 : isStr Try.prog 78 = false := by kernel_rfl
@[go_sem] theorem ty_st79 : isStr Try.prog 79 = false := by kernel_rfl
@[go_sem] theorem ty_st80 : isStr Try.prog 80 = false := by kernel_rfl
@[go_sem] theorem ty_st81 : isStr Try.prog 81 = false := by kernel_rfl
@[go_sem] theorem ty_st82 : isStr Try.prog 82 = false := by kernel_rfl
@[go_sem] theorem ty_st85 : isStr Try.prog 85 = false := by kernel_rfl
@[go_sem] theorem ty_st9 : isStr Try.prog 9 = true := by kernel_rfl
@[go_sem] theorem ty_st92 : isStr Try.prog 92 = false := by kernel_rfl
@[go_sem] theorem ty_st93 : isStr Try.prog 93 = false := by kernel_rfl
@[go_sem] theorem ty_st96 : isStr Try.prog 96 = false := by kernel_rfl
@[go_sem] theorem ty_sz102 : tsz Try.prog 102 = some 3 := by kernel_rfl
@[go_sem] theorem ty_sz107 : tsz Try.prog 107 = some 1 := by kernel_rfl
@[go_sem] theorem ty_sz108 : tsz Try.prog 108 = some 1 := by kernel_rfl
@[go_sem] theorem ty_sz110 : tsz Try.prog 110 = some 4 := by kernel_rfl
@[go_sem] theorem ty_sz114 : tsz Try.prog 114 = some 4 := by kernel_rfl
@[go_sem] theorem ty_sz126 : tsz Try.prog 126 = some 5 := by kernel_rfl
@[go_sem] theorem ty_sz127 : tsz Try.prog 127 = some 1 := by kernel_rfl
@[go_sem] theorem ty_sz129 : tsz Try.prog 129 = some 9 := by kernel_rfl
@[go_sem] theorem ty_sz133 : tsz Try.prog 133 = some 1 := by kernel_rfl
@[go_sem] theorem ty_sz135 : tsz Try.prog 135 = some 4 := by kernel_rfl
@[go_sem] theorem ty_sz139 : tsz Try.prog 139 = some 5 := by kernel_rfl
@[go_sem] theorem ty_sz140 : tsz Try.prog 140 = some 1 := by kernel_rfl
@[go_sem] theorem ty_sz142 : tsz Try.prog 142 = some 2 := by kernel_rfl
@[go_sem] theorem ty_sz147 : tsz Try.prog 147 = some 1 := by kernel_rfl
@[go_sem] theorem ty_sz149 : tsz Try.prog 149 = some 5 := by kernel_rfl
@[go_sem] theorem ty_sz153 : tsz Try.prog 153 = some 4 := by kernel_rfl
@[go_sem] theorem ty_sz155 : tsz Try.prog 155 = some 1 := by kernel_rfl
@[go_sem] theorem ty_sz159 : tsz Try.prog 159 = some 1 := by kernel_rfl
@[go_sem] theorem ty_sz161 : tsz Try.prog 161 = some 1 := by kernel_rfl
@[go_sem] theorem ty_sz170 : tsz Try.prog 170 = some 3 := by kernel_rfl
@[go_sem] theorem ty_sz178 : tsz Try.prog 178 = some 1 := by kernel_rfl
@[go_sem] theorem ty_sz180 : tsz Try.prog 180 = some 5 := by kernel_rfl
@[go_sem] theorem ty_sz183 : tsz Try.prog 183 = some 5 := by kernel_rfl
@[go_sem] theorem ty_sz186 : tsz Try.prog 186 = some 1 := by kernel_rfl
@[go_sem] theorem ty_sz187 : tsz Try.prog 187 = some 1 := by kernel_rfl
@[go_sem] theorem ty_sz189 : tsz Try.prog 189 = some 17 := by kernel_rfl
@[go_sem] theorem ty_sz192 : tsz Try.prog 192 = some 1 := by kernel_rfl
@[go_sem] theorem ty_sz194 : tsz Try.prog 194 = some 3 := by kernel_rfl
@[go_sem] theorem ty_sz196 : tsz Try.prog 196 = some 2 := by kernel_rfl
@[go_sem] theorem ty_sz198 : tsz Try.prog 198 = some 2 := by kernel_rfl
@[go_sem] theorem ty_sz200 : tsz Try.prog 200 = some 3 := by kernel_rfl
@[go_sem] theorem ty_sz207 : tsz Try.prog 207 = some 1 := by kernel_rfl
@[go_sem] theorem ty_sz208 : tsz Try.prog 208 = some 1 := by kernel_rfl
@[go_sem] theorem ty_sz210 : tsz Try.prog 210 = some 2 := by kernel_rfl
@[go_sem] theorem ty_sz213 : tsz Try.prog 213 = some 2 := by kernel_rfl
@[go_sem] theorem ty_sz224 : tsz Try.prog 224 = some 1 := by kernel_rfl
@[go_sem] theorem ty_sz226 : tsz Try.prog 226 = some 10 := by kernel_rfl
@[go_sem] theorem ty_sz23 : tsz Try.prog 23 = some 1 := by kernel_rfl
@[go_sem] theorem ty_sz235 : tsz Try.prog 235 = some 1 := by kernel_rfl
@[go_sem] theorem ty_sz238 : tsz Try.prog 238 = some 2 := by kernel_rfl
@[go_sem] theorem ty_sz24 : tsz Try.prog 24 = some 1 := by kernel_rfl
@[go_sem] theorem ty_sz240 : tsz Try.prog 240 = some 1 := by kernel_rfl
@[go_sem] theorem ty_sz241 : tsz Try.prog 241 = some 1 := by kernel_rfl
@[go_sem] theorem ty_sz242 : tsz Try.prog 242 = some 1 := by kernel_rfl
@[go_sem] theorem ty_sz244 : tsz Try.prog 244 = some 2 := by kernel_rfl
@[go_sem] theorem ty_sz245 : tsz Try.prog 245 = some 1 := by kernel_rfl
@[go_sem] theorem ty_sz246 : tsz Try.prog 246 = some 1 := by kernel_rfl
@[go_sem] theorem ty_sz247 : tsz Try.prog 247 = some 1 := by kernel_rfl
@[go_sem] theorem ty_sz249 : tsz Try.prog 249 = some 4 := by kernel_rfl
@[go_sem] theorem ty_sz25 : tsz Try.prog 25 = some 1 := by kernel_rfl
@[go_sem] theorem ty_sz251 : tsz Try.prog 251 = some 2 := by kernel_rfl
@[go_sem] theorem ty_sz252 : tsz Try.prog 252 = some 1 := by kernel_rfl
@[go_sem] theorem ty_sz253 : tsz Try.prog 253 = some 1 := by kernel_rfl
@[go_sem] theorem ty_sz255 : tsz Try.prog 255 = some 3 := by kernel_rfl
@[go_sem] theorem ty_sz258 : tsz Try.prog 258 = some 1 := by kernel_rfl
@[go_sem] theorem ty_sz259 : tsz Try.prog 259 = some 1 := by kernel_rfl
@[go_sem] theorem ty_sz26 : tsz Try.prog 26 = some 1 := by kernel_rfl
@[go_sem] theorem ty_sz260 : tsz Try.prog 260 = some 1 := by kernel_rfl
@[go_sem] theorem ty_sz261 : tsz Try.prog 261 = some 1 := by kernel_rfl
@[go_sem] theorem ty_sz262 : tsz Try.prog 262 = some 1 := by kernel_rfl
@[go_sem] theorem ty_sz263 : tsz Try.prog 263 = some 1 := by kernel_rfl
@[go_sem] theorem ty_sz265 : tsz Try.prog 265 = some 2 := by kernel_rfl
@[go_sem] theorem ty_sz267 : tsz Try.prog 267 = some 7 := by kernel_rfl
@[go_sem] theorem ty_sz268 : tsz Try.prog 268 = some 1 := by kernel_rfl
@[go_sem] theorem ty_sz269 : tsz Try.prog 269 = some 1 := by kernel_rfl
@[go_sem] theorem ty_sz27 : tsz Try.prog 27 = some 1 := by kernel_rfl
@[go_sem] theorem ty_sz270 : tsz Try.prog 270 = some 1 := by kernel_rfl
@[go_sem] theorem ty_sz273 : tsz Try.prog 273 = some 1 := by kernel_rfl
@[go_sem] theorem ty_sz275 : tsz Try.prog 275 = some 1 := by kernel_rfl
@[go_sem] theorem ty_sz276 : tsz Try.prog 276 = some 1 := by kernel_rfl
@[go_sem] theorem ty_sz278 : tsz Try.prog 278 = some 3 := by kernel_rfl
@[go_sem] theorem ty_sz279 : tsz Try.prog 279 = some 1 := by kernel_rfl
@[go_sem] theorem ty_sz284 : tsz Try.prog 284 = some 1 := by kernel_rfl
@[go_sem] theorem ty_sz287 : tsz Try.prog 287 = some 5 := by kernel_rfl
@[go_sem] theorem ty_sz288 : tsz Try.prog 288 = some 1 := by kernel_rfl
@[go_sem] theorem ty_sz289 : tsz Try.prog 289 = some 1 := by kernel_rfl
@[go_sem] theorem ty_sz29 : tsz Try.prog 29 = some 8 := by kernel_rfl
@[go_sem] theorem ty_sz291 : tsz Try.prog 291 = some 4 := by kernel_rfl
@[go_sem] theorem ty_sz295 : tsz Try.prog 295 = some 1 := by kernel_rfl
@[go_sem] theorem ty_sz297 : tsz Try.prog 297 = some 5 := by kernel_rfl
@[go_sem] theorem ty_sz3 : tsz Try.prog 3 = some 1 := by kernel_rfl
@[go_sem] theorem ty_sz30 : tsz Try.prog 30 = some 1 := by kernel_rfl
@[go_sem] theorem ty_sz304 : tsz Try.prog 304 = some 1 := by kernel_rfl
@[go_sem] theorem ty_sz306 : tsz Try.prog 306 = some 2 := by kernel_rfl
@[go_sem] theorem ty_sz308 : tsz Try.prog 308 = some 2 := by kernel_rfl
@[go_sem] theorem ty_sz319 : tsz Try.prog 319 = some 1 := by kernel_rfl
@[go_sem] theorem ty_sz32 : tsz Try.prog 32 = some 3 := by kernel_rfl
@[go_sem] theorem ty_sz326 : tsz Try.prog 326 = some 1 := by kernel_rfl
@[go_sem] theorem ty_sz331 : tsz Try.prog 331 = some 4 := by kernel_rfl
@[go_sem] theorem ty_sz333 : tsz Try.prog 333 = some 3 := by kernel_rfl
@[go_sem] theorem ty_sz344 : tsz Try.prog 344 = some 2 := by kernel_rfl
@[go_sem] theorem ty_sz356 : tsz Try.prog 356 = some 2 := by kernel_rfl
@[go_sem] theorem ty_sz36 : tsz Try.prog 36 = some 1 := by kernel_rfl
@[go_sem] theorem ty_sz365 : tsz Try.prog 365 = some 15 := by kernel_rfl
@[go_sem] theorem ty_sz367 : tsz Try.prog 367 = some 12 := by kernel_rfl
@[go_sem] theorem ty_sz37 : tsz Try.prog 37 = some 1 := by kernel_rfl
@[go_sem] theorem ty_sz38 : tsz Try.prog 38 = some 1 := by kernel_rfl
@[go_sem] theorem ty_sz382 : tsz Try.prog 382 = some 8 := by kernel_rfl
@[go_sem] theorem ty_sz389 : tsz Try.prog 389 = some 5 := by kernel_rfl
@[go_sem] theorem ty_sz392 : tsz Try.prog 392 = some 2 := by kernel_rfl
@[go_sem] theorem ty_sz4 : tsz Try.prog 4 = some 1 := by kernel_rfl
@[go_sem] theorem ty_sz40 : tsz Try.prog 40 = some 8 := by kernel_rfl
@[go_sem] theorem ty_sz404 : tsz Try.prog 404 = some 1 := by kernel_rfl
@[go_sem] theorem ty_sz406 : tsz Try.prog 406 = some 5 := by kernel_rfl
@[go_sem] theorem ty_sz411 : tsz Try.prog 411 = some 3 := by kernel_rfl
@[go_sem] theorem ty_sz42 : tsz Try.prog 42 = some 14 := by kernel_rfl
@[go_sem] theorem ty_sz432 : tsz Try.prog 432 = some 1 := by kernel_rfl
@[go_sem] theorem ty_sz436 : tsz Try.prog 436 = some 3 := by kernel_rfl
@[go_sem] theorem ty_sz466 : tsz Try.prog 466 = some 1 := by kernel_rfl
@[go_sem] theorem ty_sz5 : tsz Try.prog 5 = some 1 := by kernel_rfl
@[go_sem] theorem ty_sz51 : tsz Try.prog 51 = some 1 := by kernel_rfl
@[go_sem] theorem ty_sz58 : tsz Try.prog 58 = some 1 := by kernel_rfl
@[go_sem] theorem ty_sz59 : tsz Try.prog 59 = some 1 := by kernel_rfl
@[go_sem] theorem ty_sz61 : tsz Try.prog 61 = some 4 := by kernel_rfl
@[go_sem] theorem ty_sz74 : tsz Try.prog 74 = some 2 := by kernel_rfl
@[go_sem] theorem ty_sz78 : tsz Try.prog 78 = some 1 := by kernel_rfl
@[go_sem] theorem ty_sz79 : tsz Try.prog 79 = some 1 := by kernel_rfl
@[go_sem] theorem ty_sz80 : tsz Try.prog 80 = some 1 := by kernel_rfl
@[go_sem] theorem ty_sz81 : tsz Try.prog 81 = some 1 := by kernel_rfl
@[go_sem] theorem ty_sz82 : tsz Try.prog 82 = some 1 := by kernel_rfl
@[go_sem] theorem ty_sz84 : tsz Try.prog 84 = some 7 := by kernel_rfl
@[go_sem] theorem ty_sz89 : tsz Try.prog 89 = some 1 := by kernel_rfl
@[go_sem] theorem ty_sz9 : tsz Try.prog 9 = some 1 := by kernel_rfl
@[go_sem] theorem ty_sz91 : tsz Try.prog 91 = some 5 := by kernel_rfl
@[go_sem] theorem ty_sz92 : tsz Try.prog 92 = some 2 := by kernel_rfl
@[go_sem] theorem ty_sz98 : tsz Try.prog 98 = some 2 := by kernel_rfl
@[go_sem] theorem ty_u83 : isU8s Try.prog 3 = false := by kernel_rfl
@[go_sem] theorem ty_u8304 : isU8s Try.prog 304 = false := by kernel_rfl
@[go_sem] theorem ty_u8409 : isU8s Try.prog 409 = false := by kernel_rfl
@[go_sem] theorem ty_u8437 : isU8s Try.prog 437 = false := by kernel_rfl
@[go_sem] theorem ty_u8439 : isU8s Try.prog 439 = false := by kernel_rfl
@[go_sem] theorem ty_u8466 : isU8s Try.prog 466 = false := by kernel_rfl
@[go_sem] theorem ty_u85 : isU8s Try.prog 5 = false := by kernel_rfl
@[go_sem] theorem ty_u858 : isU8s Try.prog 58 = true := by kernel_rfl
@[go_sem] theorem ty_u89 : isU8s Try.prog 9 = false := by kernel_rfl
@[go_sem] theorem ty_u893 : isU8s Try.prog 93 = false := by kernel_rfl
@[go_sem] theorem ty_un3 : (Try.prog.underlying 3).isSome = true := by kernel_rfl
@[go_sem] theorem ty_un304 : (Try.prog.underlying 304).isSome = true := by kernel_rfl
@[go_sem] theorem ty_un409 : (Try.prog.underlying 409).isSome = true := by kernel_rfl
@[go_sem] theorem ty_un437 : (Try.prog.underlying 437).isSome = true := by kernel_rfl
@[go_sem] theorem ty_un439 : (Try.prog.underlying 439).isSome = true := by kernel_rfl
@[go_sem] theorem ty_un466 : (Try.prog.underlying 466).isSome = true := by kernel_rfl
@[go_sem] theorem ty_un5 : (Try.prog.underlying 5).isSome = true := by kernel_rfl
@[go_sem] theorem ty_un58 : (Try.prog.underlying 58).isSome = true := by kernel_rfl
@[go_sem] theorem ty_un9 : (Try.prog.underlying 9).isSome = true := by kernel_rfl
@[go_sem] theorem ty_un93 : (Try.prog.underlying 93).isSome = true := by kernel_rfl
@[go_sem] theorem ty_ze102 : tzero Try.prog 102 = some (.agg [(.str []), (.str []), (.int .i64 0)]) := by kernel_rfl
@[go_sem] theorem ty_ze107 : tzero Try.prog 107 = some (.sl [] true .full) := by kernel_rfl
@[go_sem] theorem ty_ze110 : tzero Try.prog 110 = some (.agg [(.int .i64 0), (.int .i64 0), (.str []), (.sl [] true .full)]) := by kernel_rfl
@[go_sem] theorem ty_ze114 : tzero Try.prog 114 = some (.agg [(.int .i64 0), (.int .i64 0), (.str []), (.sl [] true .full)]) := by kernel_rfl
@[go_sem] theorem ty_ze126 : tzero Try.prog 126 = some (.agg [(.sl [] true .full), (.int .i64 0), (.int .i64 0), (.str []), (.sl [] true .full)]) := by kernel_rfl
@[go_sem] theorem ty_ze129 : tzero Try.prog 129 = some (.agg [(.bool false), (.int .i64 0), (.sl [] true .full), (.int .i64 0), (.int .i64 0), (.str []), (.sl [] true .full), (.sl [] true .full), (.sl [] true .full)]) := by kernel_rfl
@[go_sem] theorem ty_ze133 : tzero Try.prog 133 = some (.sl [] true .full) := by kernel_rfl
@[go_sem] theorem ty_ze135 : tzero Try.prog 135 = some (.agg [(.sl [] true .full), (.sl [] true .full), (.int .i64 0), (.int .i64 0)]) := by kernel_rfl
@[go_sem] theorem ty_ze139 : tzero Try.prog 139 = some (.agg [(.int .i64 0), (.int .i64 0), (.int .i64 0), (.int .i64 0), (.int .i64 0)]) := by kernel_rfl
@[go_sem] theorem ty_ze140 : tzero Try.prog 140 = some (.sl [] true .full) := by kernel_rfl
@[go_sem] theorem ty_ze142 : tzero Try.prog 142 = some (.agg [(.int .i64 0), (.int .i64 0)]) := by kernel_rfl
@[go_sem] theorem ty_ze149 : tzero Try.prog 149 = some (.agg [(.bool false), (.sl [] true .full), (.sl [] true .full), (.sl [] true .full), (.int .i64 0)]) := by kernel_rfl
@[go_sem] theorem ty_ze153 : tzero Try.prog 153 = some (.agg [(.int .i64 0), (.int .i64 0), (.int .i64 0), (.int .i64 0)]) := by kernel_rfl
@[go_sem] theorem ty_ze155 : tzero Try.prog 155 = some (.sl [] true .full) := by kernel_rfl
@[go_sem] theorem ty_ze161 : tzero Try.prog 161 = some (.agg [(.sl [] true .full)]) := by kernel_rfl
@[go_sem] theorem ty_ze170 : tzero Try.prog 170 = some (.agg [(.int .i64 0), (.int .i64 0), (.str [])]) := by kernel_rfl
@[go_sem] theorem ty_ze180 : tzero Try.prog 180 = some (.agg [(.str []), (.int .i64 0), (.int .i64 0), (.int .i64 0), (.sl [] true .full)]) := by kernel_rfl
@[go_sem] theorem ty_ze183 : tzero Try.prog 183 = some (.agg [(.int .i64 0), (.int .i64 0), (.int .i64 0), (.int .i64 0), (.sl [] true .full)]) := by kernel_rfl
@[go_sem] theorem ty_ze189 : tzero Try.prog 189 = some (.agg [(.str []), (.int .i64 0), (.sl [] true .full), (.sl [] true .full), (.sl [] true .full), (.sl [] true .full), (.sl [] true .full), (.sl [] true .full), (.str []), (.int .i64 0), (.sl [] true .full), (.sl [] true .full), (.sl [] true .full), (.sl [] true .full), (.sl [] true .full), (.sl [] true .full), .nilm]) := by kernel_rfl
@[go_sem] theorem ty_ze194 : tzero Try.prog 194 = some (.agg [(.str []), (.sl [] true .full), (.sl [] true .full)]) := by kernel_rfl
@[go_sem] theorem ty_ze196 : tzero Try.prog 196 = some (.agg [(.str []), (.sl [] true .full)]) := by kernel_rfl
@[go_sem] theorem ty_ze198 : tzero Try.prog 198 = some (.agg [(.str []), (.sl [] true .full)]) := by kernel_rfl
@[go_sem] theorem ty_ze200 : tzero Try.prog 200 = some (.agg [(.str []), (.str []), (.sl [] true .full)]) := by kernel_rfl
@[go_sem] theorem ty_ze210 : tzero Try.prog 210 = some (.agg [(.sl [] true .full), .nilm]) := by kernel_rfl
@[go_sem] theorem ty_ze213 : tzero Try.prog 213 = some (.agg [(.sl [] true .full), (.int .i64 0)]) := by kernel_rfl
@[go_sem] theorem ty_ze224 : tzero Try.prog 224 = some .nilm := by kernel_rfl
@[go_sem] theorem ty_ze226 : tzero Try.prog 226 = some (.agg [(.sl [] true .full), (.sl [] true .full), (.sl [] true .full), (.sl [] true .full), (.sl [] true .full), (.sl [] true .full), (.sl [] true .full), .nilm, (.int .i64 0), (.int .i64 0)]) := by kernel_rfl
@[go_sem] theorem ty_ze238 : tzero Try.prog 238 = some (.agg [(.int .i64 0), (.sl [] true .full)]) := by kernel_rfl
@[go_sem] theorem ty_ze244 : tzero Try.prog 244 = some (.agg [(.sl [] true .full), .nilm]) := by kernel_rfl
@[go_sem] theorem ty_ze249 : tzero Try.prog 249 = some (.agg [(.sl [] true .full), (.sl [] true .full), (.sl [] true .full), (.sl [] true .full)]) := by kernel_rfl
@[go_sem] theorem ty_ze251 : tzero Try.prog 251 = some (.agg [(.int .i64 0), (.int .i64 0)]) := by kernel_rfl
@[go_sem] theorem ty_ze252 : tzero Try.prog 252 = some .nilp := by kernel_rfl
@[go_sem] theorem ty_ze253 : tzero Try.prog 253 = some .nilm := by kernel_rfl
@[go_sem] theorem ty_ze255 : tzero Try.prog 255 = some (.agg [(.sl [] true .full), (.sl [] true .full), .nilm]) := by kernel_rfl
@[go_sem] theorem ty_ze258 : tzero Try.prog 258 = some (.sl [] true .full) := by kernel_rfl
@[go_sem] theorem ty_ze259 : tzero Try.prog 259 = some (.sl [] true .full) := by kernel_rfl
@[go_sem] theorem ty_ze260 : tzero Try.prog 260 = some (.sl [] true .full) := by kernel_rfl
@[go_sem] theorem ty_ze261 : tzero Try.prog 261 = some (.sl [] true .full) := by kernel_rfl
@[go_sem] theorem ty_ze262 : tzero Try.prog 262 = some .nilm := by kernel_rfl
@[go_sem] theorem ty_ze263 : tzero Try.prog 263 = some (.sl [] true .full) := by kernel_rfl
@[go_sem] theorem ty_ze265 : tzero Try.prog 265 = some (.agg [(.int .i64 0), (.int .i64 0)]) := by kernel_rfl
@[go_sem] theorem ty_ze267 : tzero Try.prog 267 = some (.agg [(.int .i64 0), (.int .i64 0), (.int .i64 0), (.int .i64 0), (.int .i64 0), (.int .i64 0), (.int .i64 0)]) := by kernel_rfl
@[go_sem] theorem ty_ze268 : tzero Try.prog 268 = some (.sl [] true .full) := by kernel_rfl
@[go_sem] theorem ty_ze269 : tzero Try.prog 269 = some .nilf := by kernel_rfl
@[go_sem] theorem ty_ze270 : tzero Try.prog 270 = some .nilf := by kernel_rfl
@[go_sem] theorem ty_ze278 : tzero Try.prog 278 = some (.agg [(.sl [] true .full), .nilm, (.sl [] true .full)]) := by kernel_rfl
@[go_sem] theorem ty_ze279 : tzero Try.prog 279 = some .nilp := by kernel_rfl
@[go_sem] theorem ty_ze284 : tzero Try.prog 284 = some .nilm := by kernel_rfl
@[go_sem] theorem ty_ze287 : tzero Try.prog 287 = some (.agg [(.sl [] true .full), (.int .i64 0), (.int .i64 0), (.bool false), (.int .i64 0)]) := by kernel_rfl
@[go_sem] theorem ty_ze288 : tzero Try.prog 288 = some (.sl [] true .full) := by kernel_rfl
@[go_sem] theorem ty_ze29 : tzero Try.prog 29 = some (.agg [(.str []), (.int .i64 0), (.sl [] true .full), (.sl [] true .full), (.sl [] true .full), (.sl [] true .full), (.sl [] true .full), (.sl [] true .full)]) := by kernel_rfl
@[go_sem] theorem ty_ze291 : tzero Try.prog 291 = some (.agg [(.str []), (.int .i64 0), (.sl [] true .full), (.sl [] true .full)]) := by kernel_rfl
@[go_sem] theorem ty_ze295 : tzero Try.prog 295 = some .nilm := by kernel_rfl
@[go_sem] theorem ty_ze297 : tzero Try.prog 297 = some (.agg [(.int .i64 0), (.int .i64 0), (.int .i64 0), (.str []), (.sl [] true .full)]) := by kernel_rfl
@[go_sem] theorem ty_ze3 : tzero Try.prog 3 = some (.int .i64 0) := by kernel_rfl
@[go_sem] theorem ty_ze306 : tzero Try.prog 306 = some (.agg [.nilp, (.sl [] true .full)]) := by kernel_rfl
@[go_sem] theorem ty_ze308 : tzero Try.prog 308 = some (.agg [(.int .i64 0), (.bool false)]) := by kernel_rfl
@[go_sem] theorem ty_ze32 : tzero Try.prog 32 = some (.agg [(.int .i64 0), (.str []), (.sl [] true .full)]) := by kernel_rfl
@[go_sem] theorem ty_ze326 : tzero Try.prog 326 = some (.agg [(.sl [] true .full)]) := by kernel_rfl
@[go_sem] theorem ty_ze331 : tzero Try.prog 331 = some (.agg [(.str []), (.int .i64 0), (.int .i64 0), (.bool false)]) := by kernel_rfl
@[go_sem] theorem ty_ze333 : tzero Try.prog 333 = some (.agg [(.str []), (.str []), (.int .i64 0)]) := by kernel_rfl
@[go_sem] theorem ty_ze344 : tzero Try.prog 344 = some (.agg [(.sl [] true .full), (.bool false)]) := by kernel_rfl
@[go_sem] theorem ty_ze356 : tzero Try.prog 356 = some (.agg [(.int .i64 0), (.sl [] true .full)]) := by kernel_rfl
@[go_sem] theorem ty_ze365 : tzero Try.prog 365 = some (.agg [(.str []), (.sl [] true .full), (.sl [] true .full), (.sl [] true .full), (.int .i64 0), (.str []), (.sl [] true .full), (.int .i64 0), (.int .i64 0), (.str []), (.sl [] true .full), (.sl [] true .full), (.sl [] true .full), (.sl [] true .full), (.int .i64 0)]) := by kernel_rfl
@[go_sem] theorem ty_ze367 : tzero Try.prog 367 = some (.agg [(.int .i64 0), (.int .i64 0), (.str []), (.sl [] true .full), (.int .i64 0), (.int .i64 0), (.str []), (.sl [] true .full), (.sl [] true .full), (.sl [] true .full), (.sl [] true .full), (.int .i64 0)]) := by kernel_rfl
@[go_sem] theorem ty_ze382 : tzero Try.prog 382 = some (.agg [(.int .i64 0), (.int .i64 0), (.int .i64 0), (.int .i64 0), (.int .i64 0), (.int .i64 0), (.int .i64 0), .nilp]) := by kernel_rfl
@[go_sem] theorem ty_ze389 : tzero Try.prog 389 = some (.agg [(.sl [] true .full), (.bool false), (.int .i64 0), (.sl [] true .full), (.sl [] true .full)]) := by kernel_rfl
@[go_sem] theorem ty_ze392 : tzero Try.prog 392 = some (.agg [(.int .i64 0), (.bool false)]) := by kernel_rfl
@[go_sem] theorem ty_ze4 : tzero Try.prog 4 = some (.bool false) := by kernel_rfl
@[go_sem] theorem ty_ze40 : tzero Try.prog 40 = some (.agg [(.int .i64 0), (.int .i64 0), (.str []), (.sl [] true .full), (.sl [] true .full), (.sl [] true .full), (.sl [] true .full), (.int .i64 0)]) := by kernel_rfl
@[go_sem] theorem ty_ze404 : tzero Try.prog 404 = some .nilp := by kernel_rfl
@[go_sem] theorem ty_ze406 : tzero Try.prog 406 = some (.agg [(.int .i64 0), (.int .i64 0), (.str []), (.sl [] true .full), (.int .i64 0)]) := by kernel_rfl
@[go_sem] theorem ty_ze411 : tzero Try.prog 411 = some (.agg [(.str []), (.bool false), (.bool false)]) := by kernel_rfl
@[go_sem] theorem ty_ze42 : tzero Try.prog 42 = some (.agg [(.str []), (.sl [] true .full), (.sl [] true .full), (.int .i64 0), (.str []), (.sl [] true .full), (.int .i64 0), (.int .i64 0), (.str []), (.sl [] true .full), (.sl [] true .full), (.sl [] true .full), (.sl [] true .full), (.int .i64 0)]) := by kernel_rfl
@[go_sem] theorem ty_ze436 : tzero Try.prog 436 = some (.agg [(.sl [] true .full), (.sl [] true .full), .nilp]) := by kernel_rfl
@[go_sem] theorem ty_ze466 : tzero Try.prog 466 = some (.int .u64 0) := by kernel_rfl
@[go_sem] theorem ty_ze5 : tzero Try.prog 5 = some (.int .u8 0) := by kernel_rfl
@[go_sem] theorem ty_ze58 : tzero Try.prog 58 = some (.sl [] true .full) := by kernel_rfl
@[go_sem] theorem ty_ze59 : tzero Try.prog 59 = some (.sl [] true .full) := by kernel_rfl
@[go_sem] theorem ty_ze61 : tzero Try.prog 61 = some (.agg [(.int .i64 0), (.int .i64 0), (.sl [] true .full), (.sl [] true .full)]) := by kernel_rfl
@[go_sem] theorem ty_ze74 : tzero Try.prog 74 = some (.agg [(.str []), (.int .i64 0)]) := by kernel_rfl
@[go_sem] theorem ty_ze84 : tzero Try.prog 84 = some (.agg [(.sl [] true .full), (.sl [] true .full), (.sl [] true .full), (.sl [] true .full), (.sl [] true .full), (.sl [] true .full), (.sl [] true .full)]) := by kernel_rfl
@[go_sem] theorem ty_ze9 : tzero Try.prog 9 = some (.str []) := by kernel_rfl
@[go_sem] theorem ty_ze91 : tzero Try.prog 91 = some (.agg [(.int .i64 0), (.int .i64 0), (.int .i64 0), (.int .i64 0), (.bool false)]) := by kernel_rfl
@[go_sem] theorem ty_ze92 : tzero Try.prog 92 = some (.agg [(.int .i64 0), (.int .i64 0)]) := by kernel_rfl
@[go_sem] theorem ty_ze98 : tzero Try.prog 98 = some (.agg [(.str []), (.int .i64 0)]) := by kernel_rfl
end Go.Proofs.Ytclmcpbanaojfaa

/- api.Value as data; what is known of any value of that type and of no more bulk than a statement allows. No conditions. -/
set_option linter.unusedSimpArgs false
set_option linter.unusedVariables false
namespace Go.Proofs.Ytclmcpbanaojfaa
open Go.Proofs.YtclmcpbanaojfaaV
set_option maxRecDepth 100000
inductive Val where
  | mk (kind num : Int) (text : List UInt8) (args : List Val) (nl : Bool)
namespace Val
def kind : Val → Int | mk k _ _ _ _ => k
def num : Val → Int | mk _ n _ _ _ => n
def text : Val → List UInt8 | mk _ _ t _ _ => t
def args : Val → List Val | mk _ _ _ a _ => a
def nl : Val → Bool | mk _ _ _ _ b => b
end Val
instance : Inhabited Val := ⟨.mk 0 0 [] [] true⟩
mutual
def eVal : Val → List V | .mk k n t ar nl => [.int .i64 k, .int .i64 n, .str t, .sl (eVals ar) nl .no]
def eVals : List Val → List (List V) | [] => [] | v :: vs => eVal v :: eVals vs
end
mutual
/-- How many values. -/
def Val.sz : Val → Nat | .mk _ _ _ ar _ => 1 + szs ar
def szs : List Val → Nat | [] => 0 | v :: vs => v.sz + szs vs
end
theorem eVals_map : ∀ vs, eVals vs = vs.map eVal
  | [] => rfl
  | v :: vs => by rw [eVals, eVals_map vs]; rfl
theorem eVal_eq (v : Val) : eVal v = [.int .i64 v.kind, .int .i64 v.num, .str v.text, .sl (v.args.map eVal) v.nl .no] := by
  cases v; rw [eVal, eVals_map]; rfl
theorem szs_mem {v : Val} : ∀ {vs : List Val}, v ∈ vs → v.sz ≤ szs vs
  | u :: vs, h => by
    simp only [szs]
    rcases List.mem_cons.1 h with rfl | h
    · omega
    · have := szs_mem h; omega
theorem Val.sz_eq (v : Val) : v.sz = 1 + szs v.args := by cases v; rw [Val.sz]; rfl
theorem szs_append : ∀ a b : List Val, szs (a ++ b) = szs a + szs b
  | [], b => by simp [szs]
  | v :: a, b => by simp only [List.cons_append, szs, szs_append a b]; omega
theorem szs_len : ∀ vs : List Val, vs.length ≤ szs vs
  | [] => by simp [szs]
  | v :: vs => by have := szs_len vs; have := v.sz_eq; simp only [szs, List.length_cons]; omega
theorem Val.sz_args {v a : Val} (h : a ∈ v.args) : a.sz < v.sz := by have := szs_mem h; have := v.sz_eq; omega
/-- What any value keeps to. -/
inductive OkVal : Val → Prop
  | mk {k n : Int} {t : List UInt8} {ar : List Val} {nl : Bool} (hk : IntKind.i64.min ≤ k ∧ k ≤ IntKind.i64.max) (hn : IntKind.i64.min ≤ n ∧ n ≤ IntKind.i64.max) (ht : t.length ≤ bulk) (hnl : nl = true → ar = []) (hl : ar.length ≤ bulk) (ha : ∀ a ∈ ar, OkVal a) : OkVal (.mk k n t ar nl)
theorem OkVal.text {v : Val} (h : OkVal v) : v.text.length ≤ bulk := by cases h; assumption
theorem OkVal.len {v : Val} (h : OkVal v) : v.args.length ≤ bulk := by cases h; assumption
theorem OkVal.nil {v : Val} (h : OkVal v) : v.nl = true → v.args = [] := by cases h; assumption
theorem OkVal.arg {v a : Val} (h : OkVal v) (ha : a ∈ v.args) : OkVal a := by cases h; rename_i ha'; exact ha' a ha
theorem OkVal.kind {v : Val} (h : OkVal v) : IntKind.i64.min ≤ v.kind ∧ v.kind ≤ IntKind.i64.max := by cases h; assumption
theorem OkVal.num {v : Val} (h : OkVal v) : IntKind.i64.min ≤ v.num ∧ v.num ≤ IntKind.i64.max := by cases h; assumption
def oVal (v : Val) : Prop := OkVal v ∧ v.sz ≤ bulk
theorem oVal.arg {v a : Val} (h : oVal v) (ha : a ∈ v.args) : oVal a := ⟨h.1.arg ha, Nat.le_trans (Nat.le_of_lt (Val.sz_args ha)) h.2⟩
mutual
theorem sz_le : ∀ v : Val, v.sz ≤ vszL (eVal v)
  | .mk k n t ar nl => by have := szs_le ar; simp only [Val.sz, eVal, vszL, vsz]; omega
theorem szs_le : ∀ vs : List Val, szs vs ≤ vszLL (eVals vs)
  | [] => by simp [szs]
  | v :: vs => by have := sz_le v; have := szs_le vs; simp only [szs, eVals, vszLL]; omega
end
theorem pVal (v : Val) : 1 ≤ vszL (eVal v) := by have := sz_le v; have := v.sz_eq; omega
theorem dVal0 : ∀ n, Dec Try.prog 110 eVal OkVal n := by
  intro n
  induction n using Nat.strongRecOn with
  | _ n ih =>
    intro cs hv hb
    obtain ⟨m, rfl, h⟩ := dec_struct (ts := [3, 3, 9, 108]) (by kernel_rfl) hv
    obtain ⟨a0, r0, rfl, _, h0, a1, r1, rfl, _, h1, a2, r2, rfl, _, h2, a3, r3, rfl, _, h3, rfl⟩ := h
    simp only [vszL_append] at hb
    obtain ⟨x0, rfl, q0⟩ := dec_int (n := m) (k := .i64) (by kernel_rfl) _ h0 (by omega)
    obtain ⟨x1, rfl, q1⟩ := dec_int (n := m) (k := .i64) (by kernel_rfl) _ h1 (by omega)
    obtain ⟨x2, rfl, q2⟩ := dec_str (n := m) (by kernel_rfl) _ h2 (by omega)
    obtain ⟨x3, rfl, q3, q4, q5⟩ := dec_slice (n := m) (el := 110) (by kernel_rfl) pVal (fun k hk => ih k (by omega)) _ h3 (by omega)
    exact ⟨.mk x0 x1 x2 x3.1 x3.2, by rw [eVal_eq]; rfl, .mk q0 q1 q2 q3 q4 q5⟩
theorem dVal (n : Nat) : Dec Try.prog 110 eVal oVal n := fun cs hv hb => by
  obtain ⟨x, rfl, h⟩ := dVal0 n cs hv hb
  exact ⟨x, rfl, h, Nat.le_trans (sz_le x) hb⟩
mutual
/-- The same but for nil where there is nothing. -/
def sameV : Val → Val → Bool | .mk k n t ar _, .mk k' n' t' ar' _ => decide (k = k') && decide (n = n') && decide (t = t') && sameVs ar ar'
def sameVs : List Val → List Val → Bool
  | [], [] => true
  | v :: vs, u :: us => sameV v u && sameVs vs us
  | _, _ => false
end
/-- slices.EqualFunc -/
def eqF {A B : Type} (f : A → B → Bool) (xs : List A) (ys : List B) : Bool := decide (xs.length = ys.length) && (xs.zip ys).all fun p => f p.1 p.2
theorem eqF_cons {A B : Type} (f : A → B → Bool) (x : A) (y : B) (xs : List A) (ys : List B) : eqF f (x :: xs) (y :: ys) = (f x y && eqF f xs ys) := by
  simp [eqF, Bool.and_left_comm]
theorem sameVs_eq : ∀ vs us, sameVs vs us = eqF sameV vs us
  | [], [] => rfl
  | [], _ :: _ => by simp [sameVs, eqF]
  | _ :: _, [] => by simp [sameVs, eqF]
  | v :: vs, u :: us => by rw [sameVs, sameVs_eq vs us, eqF_cons]
theorem sameV_eq (v u : Val) : sameV v u = (decide (v.kind = u.kind) && decide (v.num = u.num) && decide (v.text = u.text) && eqF sameV v.args u.args) := by
  cases v; cases u; rw [sameV, sameVs_eq]; rfl
mutual
theorem sameV_refl : ∀ v, sameV v v = true
  | .mk k n t ar nl => by simp [sameV, sameVs_refl ar]
theorem sameVs_refl : ∀ vs, sameVs vs vs = true
  | [] => rfl
  | v :: vs => by simp [sameVs, sameV_refl v, sameVs_refl vs]
end
mutual
/-- A value's copy. -/
def cpV : Val → Val | .mk k n t ar _ => .mk k n t (cpVs ar) ar.isEmpty
def cpVs : List Val → List Val | [] => [] | v :: vs => cpV v :: cpVs vs
end
theorem cpVs_map : ∀ vs, cpVs vs = vs.map cpV
  | [] => rfl
  | v :: vs => by rw [cpVs, cpVs_map vs]; rfl
theorem cpV_eq (v : Val) : cpV v = .mk v.kind v.num v.text (v.args.map cpV) v.args.isEmpty := by cases v; rw [cpV, cpVs_map]; rfl
mutual
theorem same_cp : ∀ v, sameV (cpV v) v = true
  | .mk k n t ar nl => by simp [cpV, sameV, sames_cp ar]
theorem sames_cp : ∀ vs, sameVs (cpVs vs) vs = true
  | [] => rfl
  | v :: vs => by simp [cpVs, sameVs, same_cp v, sames_cp vs]
end
end Go.Proofs.Ytclmcpbanaojfaa

/- api.Type, api.Pat, api.Expr as data; what is known of any of them of no more bulk than a statement allows. No conditions. -/
set_option linter.unusedSimpArgs false
set_option linter.unusedVariables false
namespace Go.Proofs.Ytclmcpbanaojfaa
open Go.Proofs.YtclmcpbanaojfaaV
set_option maxRecDepth 100000
/-! ### types -/
inductive Typ where
  | mk (kind : Int) (name : List UInt8) (args : List Typ) (nl : Bool)
namespace Typ
def kind : Typ → Int | mk k _ _ _ => k
def name : Typ → List UInt8 | mk _ n _ _ => n
def args : Typ → List Typ | mk _ _ a _ => a
def nl : Typ → Bool | mk _ _ _ b => b
end Typ
instance : Inhabited Typ := ⟨.mk 0 [] [] true⟩
mutual
def eTyp : Typ → List V | .mk k n ar nl => [.int .i64 k, .str n, .sl (eTyps ar) nl .no]
def eTyps : List Typ → List (List V) | [] => [] | v :: vs => eTyp v :: eTyps vs
end
mutual
def Typ.sz : Typ → Nat | .mk _ _ ar _ => 1 + tszs ar
def tszs : List Typ → Nat | [] => 0 | v :: vs => v.sz + tszs vs
end
theorem eTyps_map : ∀ vs, eTyps vs = vs.map eTyp
  | [] => rfl
  | v :: vs => by rw [eTyps, eTyps_map vs]; rfl
abbrev cTyp (v : Typ) : List V := [.int .i64 v.kind, .str v.name, .sl (v.args.map eTyp) v.nl .no]
theorem eTyp_eq (v : Typ) : eTyp v = cTyp v := by
  cases v; rw [eTyp, eTyps_map]; rfl
theorem tszs_mem {v : Typ} : ∀ {vs : List Typ}, v ∈ vs → v.sz ≤ tszs vs
  | u :: vs, h => by
    simp only [tszs]
    rcases List.mem_cons.1 h with rfl | h
    · omega
    · have := tszs_mem h; omega
theorem Typ.sz_eq (v : Typ) : v.sz = 1 + tszs v.args := by cases v; rw [Typ.sz]; rfl
theorem tszs_append : ∀ a b : List Typ, tszs (a ++ b) = tszs a + tszs b
  | [], b => by simp [tszs]
  | v :: a, b => by simp only [List.cons_append, tszs, tszs_append a b]; omega
theorem tszs_len : ∀ vs : List Typ, vs.length ≤ tszs vs
  | [] => by simp [tszs]
  | v :: vs => by have := tszs_len vs; have := v.sz_eq; simp only [tszs, List.length_cons]; omega
theorem Typ.sz_args {v a : Typ} (h : a ∈ v.args) : a.sz < v.sz := by have := tszs_mem h; have := v.sz_eq; omega
inductive OkTyp : Typ → Prop
  | mk {k : Int} {t : List UInt8} {ar : List Typ} {nl : Bool} (hk : IntKind.i64.min ≤ k ∧ k ≤ IntKind.i64.max) (ht : t.length ≤ bulk) (hnl : nl = true → ar = []) (hl : ar.length ≤ bulk) (ha : ∀ a ∈ ar, OkTyp a) : OkTyp (.mk k t ar nl)
theorem OkTyp.name {v : Typ} (h : OkTyp v) : v.name.length ≤ bulk := by cases h; assumption
theorem OkTyp.len {v : Typ} (h : OkTyp v) : v.args.length ≤ bulk := by cases h; assumption
theorem OkTyp.nil {v : Typ} (h : OkTyp v) : v.nl = true → v.args = [] := by cases h; assumption
theorem OkTyp.arg {v a : Typ} (h : OkTyp v) (ha : a ∈ v.args) : OkTyp a := by cases h; rename_i ha'; exact ha' a ha
theorem OkTyp.kind {v : Typ} (h : OkTyp v) : IntKind.i64.min ≤ v.kind ∧ v.kind ≤ IntKind.i64.max := by cases h; assumption
def oTyp (v : Typ) : Prop := OkTyp v ∧ v.sz ≤ bulk
theorem oTyp.arg {v a : Typ} (h : oTyp v) (ha : a ∈ v.args) : oTyp a := ⟨h.1.arg ha, Nat.le_trans (Nat.le_of_lt (Typ.sz_args ha)) h.2⟩
mutual
theorem tsz_le : ∀ v : Typ, v.sz ≤ vszL (eTyp v)
  | .mk k n ar nl => by have := tszs_le ar; simp only [Typ.sz, eTyp, vszL, vsz]; omega
theorem tszs_le : ∀ vs : List Typ, tszs vs ≤ vszLL (eTyps vs)
  | [] => by simp [tszs]
  | v :: vs => by have := tsz_le v; have := tszs_le vs; simp only [tszs, eTyps, vszLL]; omega
end
theorem pTyp (v : Typ) : 1 ≤ vszL (eTyp v) := by have := tsz_le v; have := v.sz_eq; omega
theorem dTyp0 : ∀ n, Dec Try.prog 32 eTyp OkTyp n := by
  intro n
  induction n using Nat.strongRecOn with
  | _ n ih =>
    intro cs hv hb
    obtain ⟨m, rfl, h⟩ := dec_struct (ts := [3, 9, 30]) (by kernel_rfl) hv
    obtain ⟨a0, r0, rfl, _, h0, a2, r2, rfl, _, h2, a3, r3, rfl, _, h3, rfl⟩ := h
    simp only [vszL_append] at hb
    obtain ⟨x0, rfl, q0⟩ := dec_int (n := m) (k := .i64) (by kernel_rfl) _ h0 (by omega)
    obtain ⟨x2, rfl, q2⟩ := dec_str (n := m) (by kernel_rfl) _ h2 (by omega)
    obtain ⟨x3, rfl, q3, q4, q5⟩ := dec_slice (n := m) (el := 32) (by kernel_rfl) pTyp (fun k hk => ih k (by omega)) _ h3 (by omega)
    exact ⟨.mk x0 x2 x3.1 x3.2, by rw [eTyp_eq]; rfl, .mk q0 q2 q3 q4 q5⟩
theorem dTyp (n : Nat) : Dec Try.prog 32 eTyp oTyp n := fun cs hv hb => by
  obtain ⟨x, rfl, h⟩ := dTyp0 n cs hv hb
  exact ⟨x, rfl, h, Nat.le_trans (tsz_le x) hb⟩
/-- Lists of types. -/
abbrev Typs := List Typ × Bool
def eTypL (x : Typs) : List V := [.sl (x.1.map eTyp) x.2 .no]
def oTypL (x : Typs) : Prop := (x.2 = true → x.1 = []) ∧ tszs x.1 ≤ bulk ∧ ∀ t ∈ x.1, OkTyp t
theorem pTypL (x : Typs) : 1 ≤ vszL (eTypL x) := by simp only [eTypL, vszL, vsz]; omega
theorem dTypL (n : Nat) : Dec Try.prog 30 eTypL oTypL n := fun cs hv hb => by
  obtain ⟨x, rfl, h1, h2, h3⟩ := dec_slice (el := 32) (by kernel_rfl) pTyp (fun k _ => dTyp0 k) cs hv hb
  refine ⟨x, rfl, h1, ?_, h3⟩
  have := tszs_le x.1
  rw [eTyps_map] at this
  simp only [vszL, vsz] at hb
  omega
theorem oTypL.mem {x : Typs} (h : oTypL x) {t : Typ} (ht : t ∈ x.1) : oTyp t := ⟨h.2.2 t ht, Nat.le_trans (tszs_mem ht) h.2.1⟩
theorem oTypL.len {x : Typs} (h : oTypL x) : x.1.length ≤ bulk := Nat.le_trans (tszs_len _) h.2.1
/-! ### patterns -/
inductive Pat where
  | mk (kind num : Int) (text : List UInt8) (args : List Pat) (nl : Bool)
namespace Pat
def kind : Pat → Int | mk k _ _ _ _ => k
def num : Pat → Int | mk _ n _ _ _ => n
def text : Pat → List UInt8 | mk _ _ t _ _ => t
def args : Pat → List Pat | mk _ _ _ a _ => a
def nl : Pat → Bool | mk _ _ _ _ b => b
end Pat
instance : Inhabited Pat := ⟨.mk 0 0 [] [] true⟩
mutual
def ePat : Pat → List V | .mk k n t ar nl => [.int .i64 k, .int .i64 n, .str t, .sl (ePats ar) nl .no]
def ePats : List Pat → List (List V) | [] => [] | v :: vs => ePat v :: ePats vs
end
mutual
def Pat.sz : Pat → Nat | .mk _ _ _ ar _ => 1 + pszs ar
def pszs : List Pat → Nat | [] => 0 | v :: vs => v.sz + pszs vs
end
theorem ePats_map : ∀ vs, ePats vs = vs.map ePat
  | [] => rfl
  | v :: vs => by rw [ePats, ePats_map vs]; rfl
abbrev cPat (v : Pat) : List V := [.int .i64 v.kind, .int .i64 v.num, .str v.text, .sl (v.args.map ePat) v.nl .no]
theorem ePat_eq (v : Pat) : ePat v = cPat v := by
  cases v; rw [ePat, ePats_map]; rfl
theorem pszs_mem {v : Pat} : ∀ {vs : List Pat}, v ∈ vs → v.sz ≤ pszs vs
  | u :: vs, h => by
    simp only [pszs]
    rcases List.mem_cons.1 h with rfl | h
    · omega
    · have := pszs_mem h; omega
theorem Pat.sz_eq (v : Pat) : v.sz = 1 + pszs v.args := by cases v; rw [Pat.sz]; rfl
theorem pszs_append : ∀ a b : List Pat, pszs (a ++ b) = pszs a + pszs b
  | [], b => by simp [pszs]
  | v :: a, b => by simp only [List.cons_append, pszs, pszs_append a b]; omega
theorem pszs_len : ∀ vs : List Pat, vs.length ≤ pszs vs
  | [] => by simp [pszs]
  | v :: vs => by have := pszs_len vs; have := v.sz_eq; simp only [pszs, List.length_cons]; omega
theorem Pat.sz_args {v a : Pat} (h : a ∈ v.args) : a.sz < v.sz := by have := pszs_mem h; have := v.sz_eq; omega
inductive OkPat : Pat → Prop
  | mk {k n : Int} {t : List UInt8} {ar : List Pat} {nl : Bool} (hk : IntKind.i64.min ≤ k ∧ k ≤ IntKind.i64.max) (hn : IntKind.i64.min ≤ n ∧ n ≤ IntKind.i64.max) (ht : t.length ≤ bulk) (hnl : nl = true → ar = []) (hl : ar.length ≤ bulk) (ha : ∀ a ∈ ar, OkPat a) : OkPat (.mk k n t ar nl)
theorem OkPat.text {v : Pat} (h : OkPat v) : v.text.length ≤ bulk := by cases h; assumption
theorem OkPat.len {v : Pat} (h : OkPat v) : v.args.length ≤ bulk := by cases h; assumption
theorem OkPat.arg {v a : Pat} (h : OkPat v) (ha : a ∈ v.args) : OkPat a := by cases h; rename_i ha'; exact ha' a ha
mutual
theorem psz_le : ∀ v : Pat, v.sz ≤ vszL (ePat v)
  | .mk k n t ar nl => by have := pszs_le ar; simp only [Pat.sz, ePat, vszL, vsz]; omega
theorem pszs_le : ∀ vs : List Pat, pszs vs ≤ vszLL (ePats vs)
  | [] => by simp [pszs]
  | v :: vs => by have := psz_le v; have := pszs_le vs; simp only [pszs, ePats, vszLL]; omega
end
theorem pPat (v : Pat) : 1 ≤ vszL (ePat v) := by have := psz_le v; have := v.sz_eq; omega
theorem dPat0 : ∀ n, Dec Try.prog 114 ePat OkPat n := by
  intro n
  induction n using Nat.strongRecOn with
  | _ n ih =>
    intro cs hv hb
    obtain ⟨m, rfl, h⟩ := dec_struct (ts := [3, 3, 9, 107]) (by kernel_rfl) hv
    obtain ⟨a0, r0, rfl, _, h0, a1, r1, rfl, _, h1, a2, r2, rfl, _, h2, a3, r3, rfl, _, h3, rfl⟩ := h
    simp only [vszL_append] at hb
    obtain ⟨x0, rfl, q0⟩ := dec_int (n := m) (k := .i64) (by kernel_rfl) _ h0 (by omega)
    obtain ⟨x1, rfl, q1⟩ := dec_int (n := m) (k := .i64) (by kernel_rfl) _ h1 (by omega)
    obtain ⟨x2, rfl, q2⟩ := dec_str (n := m) (by kernel_rfl) _ h2 (by omega)
    obtain ⟨x3, rfl, q3, q4, q5⟩ := dec_slice (n := m) (el := 114) (by kernel_rfl) pPat (fun k hk => ih k (by omega)) _ h3 (by omega)
    exact ⟨.mk x0 x1 x2 x3.1 x3.2, by rw [ePat_eq]; rfl, .mk q0 q1 q2 q3 q4 q5⟩
/-! ### expressions -/
def eNm (s : List UInt8) : List V := [.str s]
theorem pNm (s : List UInt8) : 1 ≤ vszL (eNm s) := by simp only [eNm, vszL, vsz]; omega
abbrev Nms := List (List UInt8) × Bool
def eNmL (x : Nms) : List V := [.sl (x.1.map eNm) x.2 .no]
def oNmL (x : Nms) : Prop := (x.2 = true → x.1 = []) ∧ x.1.length ≤ bulk ∧ ∀ s ∈ x.1, s.length ≤ bulk
theorem pNmL (x : Nms) : 1 ≤ vszL (eNmL x) := by simp only [eNmL, vszL, vsz]; omega
theorem dNmL (n : Nat) : Dec Try.prog 36 eNmL oNmL n := dec_slice (el := 9) (by kernel_rfl) pNm (fun k _ => dec_str (by kernel_rfl))
mutual
inductive Ex where
  | mk (kind num : Int) (text : List UInt8) (names : Nms) (types : Typs) (args : List Ex) (anl : Bool) (arms : List Arm) (mnl : Bool) (at_ : Int)
inductive Arm where
  | mk (pat : Pat) (body : Ex)
end
namespace Ex
def kind : Ex → Int | mk k _ _ _ _ _ _ _ _ _ => k
def num : Ex → Int | mk _ n _ _ _ _ _ _ _ _ => n
def text : Ex → List UInt8 | mk _ _ t _ _ _ _ _ _ _ => t
def names : Ex → Nms | mk _ _ _ n _ _ _ _ _ _ => n
def types : Ex → Typs | mk _ _ _ _ t _ _ _ _ _ => t
def args : Ex → List Ex | mk _ _ _ _ _ a _ _ _ _ => a
def anl : Ex → Bool | mk _ _ _ _ _ _ b _ _ _ => b
def arms : Ex → List Arm | mk _ _ _ _ _ _ _ m _ _ => m
def mnl : Ex → Bool | mk _ _ _ _ _ _ _ _ b _ => b
def pos : Ex → Int | mk _ _ _ _ _ _ _ _ _ a => a
end Ex
namespace Arm
def pat : Arm → Pat | mk p _ => p
def body : Arm → Ex | mk _ b => b
end Arm
instance : Inhabited Ex := ⟨.mk 0 0 [] ([], true) ([], true) [] true [] true 0⟩
mutual
def eEx : Ex → List V | .mk k n t nm ty ar anl ms mnl p => [.int .i64 k, .int .i64 n, .str t, .sl (nm.1.map eNm) nm.2 .no, .sl (ty.1.map eTyp) ty.2 .no, .sl (eExs ar) anl .no, .sl (eArms ms) mnl .no, .int .i64 p]
def eExs : List Ex → List (List V) | [] => [] | v :: vs => eEx v :: eExs vs
def eArm : Arm → List V | .mk p b => ePat p ++ eEx b
def eArms : List Arm → List (List V) | [] => [] | v :: vs => eArm v :: eArms vs
end
theorem eExs_map : ∀ vs, eExs vs = vs.map eEx
  | [] => rfl
  | v :: vs => by rw [eExs, eExs_map vs]; rfl
theorem eArms_map : ∀ vs, eArms vs = vs.map eArm
  | [] => rfl
  | v :: vs => by rw [eArms, eArms_map vs]; rfl
abbrev cEx (v : Ex) : List V := [.int .i64 v.kind, .int .i64 v.num, .str v.text, .sl (v.names.1.map eNm) v.names.2 .no, .sl (v.types.1.map eTyp) v.types.2 .no, .sl (v.args.map eEx) v.anl .no, .sl (v.arms.map eArm) v.mnl .no, .int .i64 v.pos]
theorem eEx_eq (v : Ex) : eEx v = cEx v := by
  cases v; rw [eEx, eExs_map, eArms_map]; rfl
theorem eArm_eq (m : Arm) : eArm m = cPat m.pat ++ cEx m.body := by
  cases m; rw [eArm, ePat_eq, eEx_eq]; rfl
mutual
def Ex.sz : Ex → Nat | .mk _ _ _ _ _ ar _ ms _ _ => 1 + exszs ar + amszs ms
def exszs : List Ex → Nat | [] => 0 | v :: vs => v.sz + exszs vs
def Arm.sz : Arm → Nat | .mk p b => p.sz + b.sz
def amszs : List Arm → Nat | [] => 0 | v :: vs => v.sz + amszs vs
end
theorem Ex.sz_eq (v : Ex) : v.sz = 1 + exszs v.args + amszs v.arms := by cases v; rw [Ex.sz]; rfl
theorem Arm.sz_eq (v : Arm) : v.sz = v.pat.sz + v.body.sz := by cases v; rw [Arm.sz]; rfl
theorem exszs_append : ∀ a b : List Ex, exszs (a ++ b) = exszs a + exszs b
  | [], b => by simp [exszs]
  | v :: a, b => by simp only [List.cons_append, exszs, exszs_append a b]; omega
theorem exszs_len : ∀ vs : List Ex, vs.length ≤ exszs vs
  | [] => by simp [exszs]
  | v :: vs => by have := exszs_len vs; have := v.sz_eq; simp only [exszs, List.length_cons]; omega
theorem amszs_len : ∀ vs : List Arm, vs.length ≤ amszs vs
  | [] => by simp [amszs]
  | v :: vs => by have := amszs_len vs; have := v.sz_eq; have := v.pat.sz_eq; simp only [amszs, List.length_cons]; omega
inductive OkEx : Ex → Prop
  | mk {k n : Int} {t : List UInt8} {nm : Nms} {ty : Typs} {ar : List Ex} {anl : Bool} {ms : List Arm} {mnl : Bool} {p : Int} (hk : IntKind.i64.min ≤ k ∧ k ≤ IntKind.i64.max) (hn : IntKind.i64.min ≤ n ∧ n ≤ IntKind.i64.max) (ht : t.length ≤ bulk) (hnm : oNmL nm) (hty : oTypL ty) (hnl : anl = true → ar = []) (hl : ar.length ≤ bulk) (ha : ∀ a ∈ ar, OkEx a) (hml : mnl = true → ms = []) (hmn : ms.length ≤ bulk) (hp : ∀ m ∈ ms, OkPat m.pat) (hm : ∀ m ∈ ms, OkEx m.body) (hat : IntKind.i64.min ≤ p ∧ p ≤ IntKind.i64.max) : OkEx (.mk k n t nm ty ar anl ms mnl p)
theorem OkEx.types {v : Ex} (h : OkEx v) : oTypL v.types := by cases h; assumption
theorem OkEx.names {v : Ex} (h : OkEx v) : oNmL v.names := by cases h; assumption
theorem OkEx.text {v : Ex} (h : OkEx v) : v.text.length ≤ bulk := by cases h; assumption
theorem OkEx.kind {v : Ex} (h : OkEx v) : IntKind.i64.min ≤ v.kind ∧ v.kind ≤ IntKind.i64.max := by cases h; assumption
theorem OkEx.num {v : Ex} (h : OkEx v) : IntKind.i64.min ≤ v.num ∧ v.num ≤ IntKind.i64.max := by cases h; assumption
theorem OkEx.pos {v : Ex} (h : OkEx v) : IntKind.i64.min ≤ v.pos ∧ v.pos ≤ IntKind.i64.max := by cases h; assumption
theorem OkEx.len {v : Ex} (h : OkEx v) : v.args.length ≤ bulk := by cases h; assumption
theorem OkEx.mlen {v : Ex} (h : OkEx v) : v.arms.length ≤ bulk := by cases h; assumption
theorem OkEx.nil {v : Ex} (h : OkEx v) : v.anl = true → v.args = [] := by cases h; assumption
theorem OkEx.arg {v a : Ex} (h : OkEx v) (ha : a ∈ v.args) : OkEx a := by cases h; rename_i ha' _ _ _ _ _; exact ha' a ha
theorem OkEx.pat {v : Ex} {m : Arm} (h : OkEx v) (hm : m ∈ v.arms) : OkPat m.pat := by cases h; rename_i h1 h2 h3; exact h1 m hm
theorem OkEx.body {v : Ex} {m : Arm} (h : OkEx v) (hm : m ∈ v.arms) : OkEx m.body := by cases h; rename_i h1 h2 h3; exact h2 m hm
def oEx (v : Ex) : Prop := OkEx v ∧ v.sz ≤ bulk
mutual
theorem exsz_le : ∀ v : Ex, v.sz ≤ vszL (eEx v)
  | .mk k n t nm ty ar anl ms mnl p => by have := exszs_le ar; have := amszs_le ms; simp only [Ex.sz, eEx, vszL, vsz]; omega
theorem exszs_le : ∀ vs : List Ex, exszs vs ≤ vszLL (eExs vs)
  | [] => by simp [exszs]
  | v :: vs => by have := exsz_le v; have := exszs_le vs; simp only [exszs, eExs, vszLL]; omega
theorem amsz_le : ∀ v : Arm, v.sz ≤ vszL (eArm v)
  | .mk p b => by have := psz_le p; have := exsz_le b; simp only [Arm.sz, eArm, vszL_append]; omega
theorem amszs_le : ∀ vs : List Arm, amszs vs ≤ vszLL (eArms vs)
  | [] => by simp [amszs]
  | v :: vs => by have := amsz_le v; have := amszs_le vs; simp only [amszs, eArms, vszLL]; omega
end
theorem pEx (v : Ex) : 1 ≤ vszL (eEx v) := by have := exsz_le v; have := v.sz_eq; omega
theorem pArm (v : Arm) : 1 ≤ vszL (eArm v) := by have := amsz_le v; have := v.sz_eq; have := v.pat.sz_eq; omega
theorem dEx0 : ∀ n, Dec Try.prog 40 eEx OkEx n := by
  intro n
  induction n using Nat.strongRecOn with
  | _ n ih =>
    intro cs hv hb
    obtain ⟨m, rfl, h⟩ := dec_struct (ts := [3, 3, 9, 36, 30, 37, 38, 3]) (by kernel_rfl) hv
    obtain ⟨a0, r0, rfl, _, h0, a1, r1, rfl, _, h1, a2, r2, rfl, _, h2, a3, r3, rfl, _, h3, a4, r4, rfl, _, h4, a5, r5, rfl, _, h5, a6, r6, rfl, _, h6, a7, r7, rfl, _, h7, rfl⟩ := h
    simp only [vszL_append] at hb
    obtain ⟨x0, rfl, q0⟩ := dec_int (n := m) (k := .i64) (by kernel_rfl) _ h0 (by omega)
    obtain ⟨x1, rfl, q1⟩ := dec_int (n := m) (k := .i64) (by kernel_rfl) _ h1 (by omega)
    obtain ⟨x2, rfl, q2⟩ := dec_str (n := m) (by kernel_rfl) _ h2 (by omega)
    obtain ⟨x3, rfl, q3⟩ := dNmL m _ h3 (by omega)
    obtain ⟨x4, rfl, q4⟩ := dTypL m _ h4 (by omega)
    obtain ⟨x5, rfl, q5, q6, q7⟩ := dec_slice (n := m) (el := 40) (by kernel_rfl) pEx (fun k hk => ih k (by omega)) _ h5 (by omega)
    obtain ⟨x6, rfl, q8, q9, q10⟩ := dec_slice (n := m) (el := 367) (e := eArm) (o := fun m => OkPat m.pat ∧ OkEx m.body) (by kernel_rfl) pArm (fun k hk => by
      intro cs hv hb
      obtain ⟨m2, rfl, h⟩ := dec_struct (ts := [114, 40]) (by kernel_rfl) hv
      obtain ⟨a0, r0, rfl, _, h0, a1, r1, rfl, _, h1, rfl⟩ := h
      simp only [vszL_append] at hb
      obtain ⟨x0, rfl, q0⟩ := dPat0 m2 _ h0 (by omega)
      obtain ⟨x1, rfl, q1⟩ := ih m2 (by omega) _ h1 (by omega)
      exact ⟨.mk x0 x1, by rw [eArm, List.append_nil], q0, q1⟩) _ h6 (by omega)
    obtain ⟨x7, rfl, q11⟩ := dec_int (n := m) (k := .i64) (by kernel_rfl) _ h7 (by omega)
    exact ⟨.mk x0 x1 x2 x3 x4 x5.1 x5.2 x6.1 x6.2 x7, by rw [eEx_eq]; rfl, .mk q0 q1 q2 q3 q4 q5 q6 q7 q8 q9 (fun m hm => (q10 m hm).1) (fun m hm => (q10 m hm).2) q11⟩
theorem dEx (n : Nat) : Dec Try.prog 40 eEx oEx n := fun cs hv hb => by
  obtain ⟨x, rfl, h⟩ := dEx0 n cs hv hb
  exact ⟨x, rfl, h, Nat.le_trans (exsz_le x) hb⟩
end Go.Proofs.Ytclmcpbanaojfaa

/- slices.Index of texts: what it answers; the condition: fewer than 2^63 elements. -/
set_option linter.unusedSimpArgs false
set_option linter.unusedVariables false
namespace Go.Proofs.Ytclmcpbanaojfaa
open Go.Proofs.YtclmcpbanaojfaaV
set_option maxHeartbeats 400000
set_option maxRecDepth 100000
theorem q_IndexStr (xs : List (List UInt8)) (nl : Bool) (t : Tag) (s : List UInt8) (hx : (xs.length : Int) ≤ 9223372036854775807) :
    Quiet Try.prog 181 [.sl (xs.map eNm) nl t, .str s] (.int .i64 (ixI (xs.findIdx? fun x => decide (s = x)))) := by
  refine Quiet.weak fun G => ?_
  refine acall_body (rs := [.tmp 4]) Try.func181 rfl rfl Try.ntmps181 (by kernel_rfl) (Nat.le_of_ble_eq_true rfl) ?_
  refine aw_sr rfl ?_
  simp only [go_sem, reduceIte, Nat.reduceEqDiff, Nat.reduceAdd, Nat.reduceMul, Nat.reduceSub, Nat.reduceLeDiff, Nat.reduceLT, reduceCtorEq]
  refine aw_seq fun K1 hK1 => ?_
  refine aw_sr rfl ?_
  simp only [go_sem, reduceIte, Nat.reduceEqDiff, Nat.reduceAdd, Nat.reduceMul, Nat.reduceSub, Nat.reduceLeDiff, Nat.reduceLT, reduceCtorEq]
  refine aw_range xs.length (S := Unit) (fun _ _ => [(0, .sl (xs.map eNm) nl t), (1, .str s)]) (fun _ _ => G) (fun i _ => ∀ j (h : j < xs.length), j < i → decide (s = xs[j]) = false) () hx ?_ (fun _ _ h => h) (fun j _ h => absurd h (by omega)) rfl (fun _ _ => rfl) ?_ ?_ (by decide)
  · simp only [go_sem, reduceIte, Nat.reduceEqDiff, Nat.reduceAdd, Nat.reduceMul, Nat.reduceSub, Nat.reduceLeDiff, Nat.reduceLT, reduceCtorEq, Int.natCast_zero]
  · intro i _ hi he
    refine aw_sr rfl ?_
    simp only [go_sem, reduceIte, Nat.reduceEqDiff, Nat.reduceAdd, Nat.reduceMul, Nat.reduceSub, Nat.reduceLeDiff, Nat.reduceLT, reduceCtorEq]
    refine aw_sr rfl ?_
    simp only [go_sem, reduceIte, Nat.reduceEqDiff, Nat.reduceAdd, Nat.reduceMul, Nat.reduceSub, Nat.reduceLeDiff, Nat.reduceLT, reduceCtorEq, getD_map hi, eNm]
    refine ⟨⟨by omega, by omega, wid_map (g := eNm) (fun _ => rfl) _⟩, ?_⟩
    refine aw_if rfl (fun h => ?_) (fun h => ?_)
    · refine aw_sr rfl ?_
      simp only [go_sem, reduceIte, Nat.reduceEqDiff, Nat.reduceAdd, Nat.reduceMul, Nat.reduceSub, Nat.reduceLeDiff, Nat.reduceLT, reduceCtorEq]
      refine aw_ret ⟨trivial, _, rfl, ?_, fun _ _ h => h⟩
      rw [ixI_at hi h (fun j hj => he j (by omega) hj)]
      exact Vle.refl _
    · refine aw_skip ⟨(), fun j hj hlt => ?_, ?_, fun _ _ h => h⟩
      · by_cases e : j = i
        · subst e; exact h
        · exact he j hj (by omega)
      simp only [go_sem, reduceIte, Nat.reduceEqDiff, Nat.reduceAdd, Nat.reduceMul, Nat.reduceSub, Nat.reduceLeDiff, Nat.reduceLT, reduceCtorEq]
  · intro _ he
    refine hK1 _ _ ?_
    refine aw_sr rfl ?_
    simp only [go_sem, reduceIte, Nat.reduceEqDiff, Nat.reduceAdd, Nat.reduceMul, Nat.reduceSub, Nat.reduceLeDiff, Nat.reduceLT, reduceCtorEq]
    refine aw_ret ⟨trivial, _, rfl, ?_, fun _ _ h => h⟩
    rw [ixI_none (fun j hj => he j hj hj)]
    exact Vle.refl _
end Go.Proofs.Ytclmcpbanaojfaa

/- Patterns of a code: how many nodes they have and how many names they bind, by both texts; operators. Conditions: the patterns are data of no more than 1048576 values and letters. -/
set_option linter.unusedSimpArgs false
set_option linter.unusedVariables false
namespace Go.Proofs.Ytclmcpbanaojfaa
open Go.Proofs.YtclmcpbanaojfaaV
set_option maxHeartbeats 400000
set_option maxRecDepth 100000
theorem wid_ePat (ps : List Pat) : wid 4 (ps.map ePat) := wid_map (g := ePat) (fun _ => by rw [ePat_eq]; rfl) _
theorem q_nodes : ∀ (n : Nat) (p : Pat) (most : Int), p.sz ≤ n → OkPat p → QI Try.prog 53 [.agg (cPat p), .int .i64 most] := by
  intro n
  induction n with
  | zero => intro p most h; have := p.sz_eq; omega
  | succ n ih =>
  intro p most hn hp
  have hpl : p.args.length ≤ 1048576 := hp.len
  refine QI.weak fun G => ?_
  refine acall_body (rs := [.tmp 4]) Try.func53 rfl rfl Try.ntmps53 (by kernel_rfl) (Nat.le_of_ble_eq_true rfl) ?_
  refine aw_sr rfl ?_  -- r0 @low.go:44
  simp only [go_sem, reduceIte, Nat.reduceEqDiff, Nat.reduceAdd, Nat.reduceMul, Nat.reduceSub, Nat.reduceLeDiff, Nat.reduceLT, reduceCtorEq]
  intro b2 hb2
  refine aw_box1 hb2 fun B1 hs1 h2 => ?_
  have hsB := hs1
  refine aw_sr rfl ?_  -- r1 @low.go:45
  simp only [go_sem, reduceIte, Nat.reduceEqDiff, Nat.reduceAdd, Nat.reduceMul, Nat.reduceSub, Nat.reduceLeDiff, Nat.reduceLT, reduceCtorEq]
  refine aw_seq fun K2 hK2 => ?_
  refine aw_sr rfl ?_  -- r2 @low.go:46
  simp only [go_sem, reduceIte, Nat.reduceEqDiff, Nat.reduceAdd, Nat.reduceMul, Nat.reduceSub, Nat.reduceLeDiff, Nat.reduceLT, reduceCtorEq, h2]
  refine aw_range p.args.length (S := Int) (fun i st => [(1, .int .i64 most), (5, .int .i64 st), (9, .sl (p.args.map ePat) p.nl .no)]) (fun _ _ => B1) (fun i _ => True) 1 (by omega) ?_ (fun _ _ h => h) trivial rfl (fun _ _ => rfl) ?_ ?_ (by decide)
  · simp only [go_sem, reduceIte, Nat.reduceEqDiff, Nat.reduceAdd, Nat.reduceMul, Nat.reduceSub, Nat.reduceLeDiff, Nat.reduceLT, reduceCtorEq, Int.natCast_zero]
  · intro i m0 hi he
    have ham : p.args[i] ∈ p.args := List.getElem_mem hi
    refine aw_sr rfl ?_  -- r4 @low.go:46
    simp only [go_sem, reduceIte, Nat.reduceEqDiff, Nat.reduceAdd, Nat.reduceMul, Nat.reduceSub, Nat.reduceLeDiff, Nat.reduceLT, reduceCtorEq, getD_map hi, ePat_eq]
    refine ⟨⟨by omega, by omega, wid_ePat _⟩, ?_⟩
    intro b7 hb7
    refine aw_box1 hb7 fun B2 hs2 h7 => ?_
    refine aw_seq fun K3 hK3 => ?_
    refine aw_sr rfl ?_  -- r5 @low.go:47
    simp only [go_sem, reduceIte, Nat.reduceEqDiff, Nat.reduceAdd, Nat.reduceMul, Nat.reduceSub, Nat.reduceLeDiff, Nat.reduceLT, reduceCtorEq]
    refine aw_if rfl (fun h => ?_) (fun h => ?_)
    · refine aw_sr rfl ?_  -- r6 @low.go:48
      simp only [go_sem, reduceIte, Nat.reduceEqDiff, Nat.reduceAdd, Nat.reduceMul, Nat.reduceSub, Nat.reduceLeDiff, Nat.reduceLT, reduceCtorEq]
      exact aw_ret ⟨trivial, _, rfl, ⟨_, Vle.refl _⟩, sub_trans hsB hs2⟩
    refine aw_skip (hK3 _ _ ?_)
    refine aw_rg rfl ?_  -- r7 @low.go:50
    simp only [go_sem, reduceIte, Nat.reduceEqDiff, Nat.reduceAdd, Nat.reduceMul, Nat.reduceSub, Nat.reduceLeDiff, Nat.reduceLT, reduceCtorEq, h7]
    refine goA_qi (ih p.args[i] _ (by have := Pat.sz_args ham; omega) (hp.arg ham)) fun m => ?_
    simp only [go_sem, reduceIte, Nat.reduceEqDiff, Nat.reduceAdd, Nat.reduceMul, Nat.reduceSub, Nat.reduceLeDiff, Nat.reduceLT, reduceCtorEq]
    refine ⟨IntKind.i64.wrap (m0 + m), ?_, hs2⟩
    simp only [go_sem, reduceIte, Nat.reduceEqDiff, Nat.reduceAdd, Nat.reduceMul, Nat.reduceSub, Nat.reduceLeDiff, Nat.reduceLT, reduceCtorEq]
  intro m0 he
  refine hK2 _ _ ?_
  refine aw_sr rfl ?_  -- r9 @low.go:52
  simp only [go_sem, reduceIte, Nat.reduceEqDiff, Nat.reduceAdd, Nat.reduceMul, Nat.reduceSub, Nat.reduceLeDiff, Nat.reduceLT, reduceCtorEq]
  exact aw_ret ⟨trivial, _, rfl, ⟨_, Vle.refl _⟩, hsB⟩
def oPat (v : Pat) : Prop := OkPat v ∧ v.sz ≤ bulk
theorem dPat (n : Nat) : Dec Try.prog 114 ePat oPat n := by
  intro cs hv hb
  obtain ⟨x, rfl, hx⟩ := dPat0 n cs hv hb
  exact ⟨x, rfl, hx, Nat.le_trans (psz_le x) hb⟩
mutual
/-- How many names a pattern binds. -/
def bindsF : Pat → Nat
  | .mk k _ _ ar _ => if k = 2 then 1 else if k = 6 then bindsFs ar else 0
def bindsFs : List Pat → Nat
  | [] => 0
  | p :: ps => bindsF p + bindsFs ps
end
theorem bindsF_eq (p : Pat) : bindsF p = if p.kind = 2 then 1 else if p.kind = 6 then bindsFs p.args else 0 := by cases p; rfl
theorem bindsFs_append : ∀ a b : List Pat, bindsFs (a ++ b) = bindsFs a + bindsFs b
  | [], b => by simp [bindsFs]
  | p :: a, b => by simp only [List.cons_append, bindsFs, bindsFs_append a b]; omega
mutual
theorem binds_le : ∀ p : Pat, bindsF p ≤ p.sz
  | .mk k n t ar nl => by
    rw [bindsF, Pat.sz]
    have := bindss_le ar
    split
    · omega
    · split <;> omega
theorem bindss_le : ∀ ps : List Pat, bindsFs ps ≤ pszs ps
  | [] => by simp [bindsFs]
  | p :: ps => by rw [bindsFs, pszs]; have := binds_le p; have := bindss_le ps; omega
end
theorem q_Binds : ∀ (n : Nat) (p : Pat), p.sz ≤ n → n ≤ 1048576 → OkPat p → Quiet Try.prog 293 [.agg (cPat p)] (.int .i64 (bindsF p)) := by
  intro n
  induction n with
  | zero => intro p h; have := p.sz_eq; omega
  | succ n ih =>
  intro p hn hn2 hp
  have hpl : p.args.length ≤ 1048576 := hp.len
  have hsz := p.sz_eq
  have hE := bindsF_eq p
  refine Quiet.weak fun G => ?_
  refine acall_body (rs := [.tmp 2]) Try.func293 rfl rfl Try.ntmps293 (by kernel_rfl) (Nat.le_of_ble_eq_true rfl) ?_
  refine aw_sr rfl ?_  -- r0 @code.go:132
  simp only [go_sem, reduceIte, Nat.reduceEqDiff, Nat.reduceAdd, Nat.reduceMul, Nat.reduceSub, Nat.reduceLeDiff, Nat.reduceLT, reduceCtorEq]
  intro b1 hb1
  refine aw_box1 hb1 fun B1 hs1 h1 => ?_
  have hsB := hs1
  refine aw_seq fun K4 hK4 => ?_
  refine aw_sr rfl ?_  -- r1 @code.go:133
  simp only [go_sem, reduceIte, Nat.reduceEqDiff, Nat.reduceAdd, Nat.reduceMul, Nat.reduceSub, Nat.reduceLeDiff, Nat.reduceLT, reduceCtorEq, h1]
  refine aw_if rfl (fun h => ?_) (fun h => ?_)
  · have h : p.kind = 2 := by simpa using h
    refine aw_sr rfl ?_  -- r2 @code.go:134
    simp only [go_sem, reduceIte, Nat.reduceEqDiff, Nat.reduceAdd, Nat.reduceMul, Nat.reduceSub, Nat.reduceLeDiff, Nat.reduceLT, reduceCtorEq]
    refine aw_ret ⟨trivial, _, rfl, ?_, hsB⟩
    rw [hE, if_pos h]
    exact Vle.refl _
  have h2 : ¬ p.kind = 2 := by simpa using h
  rw [if_neg h2] at hE
  refine aw_skip (hK4 _ _ ?_)
  refine aw_sr rfl ?_  -- r3 @code.go:136
  simp only [go_sem, reduceIte, Nat.reduceEqDiff, Nat.reduceAdd, Nat.reduceMul, Nat.reduceSub, Nat.reduceLeDiff, Nat.reduceLT, reduceCtorEq]
  refine aw_mid (fun f' G' => FSub [(3, .int .i64 (bindsF p))] f' ∧ G' = B1) ?_ ?_
  · -- 2 ways
    refine aw_sr rfl ?_  -- r4 @code.go:137
    simp only [go_sem, reduceIte, Nat.reduceEqDiff, Nat.reduceAdd, Nat.reduceMul, Nat.reduceSub, Nat.reduceLeDiff, Nat.reduceLT, reduceCtorEq, h1]
    refine aw_if rfl (fun h => ?_) (fun h => ?_)
    · have h : p.kind = 6 := by simpa using h
      rw [if_pos h] at hE
      refine aw_sr rfl ?_  -- r5 @code.go:138
      simp only [go_sem, reduceIte, Nat.reduceEqDiff, Nat.reduceAdd, Nat.reduceMul, Nat.reduceSub, Nat.reduceLeDiff, Nat.reduceLT, reduceCtorEq, h1]
      refine aw_range p.args.length (S := Unit) (fun i _ => [(3, .int .i64 (bindsFs (p.args.take i))), (13, .sl (p.args.map ePat) p.nl .no)]) (fun _ _ => B1) (fun i _ => True) () (by omega) ?_ (fun _ _ h => h) trivial rfl (fun _ _ => rfl) ?_ ?_ (by decide)
      · simp only [go_sem, reduceIte, Nat.reduceEqDiff, Nat.reduceAdd, Nat.reduceMul, Nat.reduceSub, Nat.reduceLeDiff, Nat.reduceLT, reduceCtorEq, Int.natCast_zero]
        rfl
      · intro i _ hi he
        have ham : p.args[i] ∈ p.args := List.getElem_mem hi
        have h3 := Pat.sz_args ham
        have h4 := bindss_le (p.args.take (i + 1))
        have h5 : pszs (p.args.take (i + 1)) ≤ pszs p.args := by
          conv => rhs; rw [← List.take_append_drop (i + 1) p.args, pszs_append]
          omega
        have hstep : bindsFs (p.args.take (i + 1)) = bindsFs (p.args.take i) + bindsF p.args[i] := by
          rw [List.take_succ_eq_append_getElem hi, bindsFs_append]; simp [bindsFs]
        have hw : IntKind.i64.wrap ((bindsFs (p.args.take i) : Int) + (bindsF p.args[i] : Int)) = (bindsFs (p.args.take (i + 1)) : Nat) := by
          rw [wrap64 (by omega) (by omega), hstep]; omega
        refine aw_sr rfl ?_  -- r7 @code.go:138
        simp only [go_sem, reduceIte, Nat.reduceEqDiff, Nat.reduceAdd, Nat.reduceMul, Nat.reduceSub, Nat.reduceLeDiff, Nat.reduceLT, reduceCtorEq, getD_map hi, ePat_eq]
        refine ⟨⟨by omega, by omega, wid_ePat _⟩, ?_⟩
        intro b5 hb5
        refine aw_box1 hb5 fun B2 hs2 h5 => ?_
        refine aw_rg rfl ?_  -- r8 @code.go:139
        simp only [go_sem, reduceIte, Nat.reduceEqDiff, Nat.reduceAdd, Nat.reduceMul, Nat.reduceSub, Nat.reduceLeDiff, Nat.reduceLT, reduceCtorEq, h5]
        refine goA_q (ih p.args[i] (by omega) (by omega) (hp.arg ham)) ?_
        simp only [go_sem, reduceIte, Nat.reduceEqDiff, Nat.reduceAdd, Nat.reduceMul, Nat.reduceSub, Nat.reduceLeDiff, Nat.reduceLT, reduceCtorEq, hw]
        refine ⟨(), ?_, hs2⟩
        simp only [go_sem, reduceIte, Nat.reduceEqDiff, Nat.reduceAdd, Nat.reduceMul, Nat.reduceSub, Nat.reduceLeDiff, Nat.reduceLT, reduceCtorEq]
      intro _ he
      rw [List.take_length, ← hE]
      exact ⟨rfl, rfl⟩
    · have h : ¬ p.kind = 6 := by simpa using h
      rw [if_neg h] at hE
      rw [hE]
      exact aw_skip ⟨rfl, rfl⟩
  intro f' G' ⟨hf, hg⟩
  rw [hg]
  refine AW.of_fsub hf ?_
  refine aw_sr rfl ?_  -- r10 @code.go:142
  simp only [go_sem, reduceIte, Nat.reduceEqDiff, Nat.reduceAdd, Nat.reduceMul, Nat.reduceSub, Nat.reduceLeDiff, Nat.reduceLT, reduceCtorEq]
  exact aw_ret ⟨trivial, _, rfl, Vle.refl _, hsB⟩
/-- The reference's: by a queue. -/
theorem q_rBinds (p : Pat) (hn : p.sz ≤ 1048576) (hp : OkPat p) : Quiet Try.prog 224 [.agg (cPat p)] (.int .i64 (bindsF p)) := by
  refine Quiet.weak fun G => ?_
  refine acall_body (rs := [.tmp 2]) Try.func224 rfl rfl Try.ntmps224 (by kernel_rfl) (Nat.le_of_ble_eq_true rfl) ?_
  refine aw_sr rfl ?_  -- r0 @low.go:121
  simp only [go_sem, reduceIte, Nat.reduceEqDiff, Nat.reduceAdd, Nat.reduceMul, Nat.reduceSub, Nat.reduceLeDiff, Nat.reduceLT, reduceCtorEq]
  intro b1 hb1
  refine aw_box1 hb1 fun B1 hs1 h1 => ?_
  have hsB := hs1
  refine aw_sr rfl ?_  -- r1 @low.go:122
  simp only [go_sem, reduceIte, Nat.reduceEqDiff, Nat.reduceAdd, Nat.reduceMul, Nat.reduceSub, Nat.reduceLeDiff, Nat.reduceLT, reduceCtorEq]
  refine aw_sr rfl ?_  -- r2 @low.go:123
  simp only [go_sem, reduceIte, Nat.reduceEqDiff, Nat.reduceAdd, Nat.reduceMul, Nat.reduceSub, Nat.reduceLeDiff, Nat.reduceLT, reduceCtorEq, h1]
  refine aw_seq fun K5 hK5 => ?_
  refine aw_block ?_  -- 0
  refine aw_lph (S := {s : Nat × List Pat × Tag × Heap // s.1 + bindsFs s.2.1 = bindsF p ∧ pszs s.2.1 ≤ p.sz ∧ (∀ q ∈ s.2.1, OkPat q) ∧ Rm G s.2.2.2 4 s.2.2.1 ∧ Sub G s.2.2.2}) (fun s => [(3, .int .i64 s.1.1), (4, .sl (s.1.2.1.map ePat) false s.1.2.2.1)]) (fun s => s.1.2.2.2) (fun s => pszs s.1.2.1)
    ⟨(0, [p], .full, B1), by simp [bindsFs], by simp [pszs], by simpa using hp, Rm.start _ _ _, hsB⟩ ?_ (fun _ _ h => h) ?_
  · simp only [go_sem, reduceIte, Nat.reduceEqDiff, Nat.reduceAdd, Nat.reduceMul, Nat.reduceSub, Nat.reduceLeDiff, Nat.reduceLT, reduceCtorEq, Int.natCast_zero]
    rw [List.map_cons, ePat_eq]; rfl
  intro ⟨⟨n, todo, tg, H⟩, hsum, hpz, hok, hr, hs⟩
  simp only at hsum hpz hok hr hs ⊢
  have hle : todo.length ≤ 1048576 := by
    have h1 : ∀ l : List Pat, l.length ≤ pszs l := fun l => by
      induction l with
      | nil => simp [pszs]
      | cons a l ih => rw [pszs, List.length_cons]; have := a.sz_eq; omega
    have := h1 todo
    omega
  refine aw_seq fun K6 hK6 => ?_
  refine aw_sr rfl ?_  -- r3 @low.go:124
  simp only [go_sem, reduceIte, Nat.reduceEqDiff, Nat.reduceAdd, Nat.reduceMul, Nat.reduceSub, Nat.reduceLeDiff, Nat.reduceLT, reduceCtorEq]
  refine aw_if rfl (fun h => ?_) (fun h => ?_)
  · obtain ⟨q, rest, rfl⟩ : ∃ q rest, todo = q :: rest := by
      cases todo with
      | nil => simp at h
      | cons q rest => exact ⟨q, rest, rfl⟩
    have hq := hok q (by simp)
    have hle' : rest.length + 1 ≤ 1048576 := by simpa using hle
    have hql : q.args.length ≤ 1048576 := hq.len
    have hqsz := q.sz_eq
    simp only [pszs] at hpz
    rw [bindsFs, bindsF_eq q] at hsum
    have hbn := binds_le p
    refine aw_skip (hK6 _ _ ?_)
    refine aw_block ?_  -- 1
    refine aw_sr rfl ?_  -- r4 @low.go:125
    simp only [go_sem, reduceIte, Nat.reduceEqDiff, Nat.reduceAdd, Nat.reduceMul, Nat.reduceSub, Nat.reduceLeDiff, Nat.reduceLT, reduceCtorEq, List.map_cons, ePat_eq, Int.toNat_zero, List.getD_cons_zero]
    refine ⟨⟨by omega, by omega, by rw [← ePat_eq, ← List.map_cons]; exact wid_ePat _⟩, ?_⟩
    intro b5 hb5
    refine aw_box1 hb5 fun B2 hs2 h5 => ?_
    replace hr := hr.sub hs2
    replace hs := sub_trans hs hs2
    refine aw_sr rfl ?_  -- r5 @low.go:126
    simp only [go_sem, reduceIte, Nat.reduceEqDiff, Nat.reduceAdd, Nat.reduceMul, Nat.reduceSub, Nat.reduceLeDiff, Nat.reduceLT, reduceCtorEq, toNat1, take_map_len, hr.slice]
    refine ⟨⟨⟨by omega, by omega⟩, by rw [← ePat_eq, ← List.map_cons]; exact wid_ePat _⟩, ?_⟩
    have hsum' : n + (if q.kind = 2 then 1 else 0) + bindsFs (rest ++ (if q.kind = 6 then q.args else [])) = bindsF p := by
      rw [bindsFs_append]
      by_cases h2 : q.kind = 2
      · rw [if_pos h2] at hsum ⊢
        rw [if_neg (by omega)]
        simp [bindsFs]; omega
      · rw [if_neg h2] at hsum ⊢
        by_cases h6 : q.kind = 6
        · rw [if_pos h6] at hsum ⊢; omega
        · rw [if_neg h6] at hsum ⊢; simp [bindsFs]; omega
    refine aw_mid (fun f' G' => FSub [(3, .int .i64 ((n + (if q.kind = 2 then 1 else 0) : Nat) : Int)), (4, .sl (rest.map ePat) false tg), (5, .ptr b5 0)] f' ∧ G' = B2) ?_ ?_
    · refine aw_sr rfl ?_  -- r6 @low.go:127
      simp only [go_sem, reduceIte, Nat.reduceEqDiff, Nat.reduceAdd, Nat.reduceMul, Nat.reduceSub, Nat.reduceLeDiff, Nat.reduceLT, reduceCtorEq, h5]
      refine aw_if rfl (fun h => ?_) (fun h => ?_)
      · have h : q.kind = 2 := by simpa using h
        refine aw_rg rfl ?_  -- r7 @low.go:128
        simp only [go_sem, reduceIte, Nat.reduceEqDiff, Nat.reduceAdd, Nat.reduceMul, Nat.reduceSub, Nat.reduceLeDiff, Nat.reduceLT, reduceCtorEq, show IntKind.i64.wrap ((n : Int) + 1) = ((n + (if q.kind = 2 then 1 else 0) : Nat) : Int) by rw [if_pos h, wrap64 (by omega) (by omega)]; omega]
        exact ⟨⟨rfl, rfl, rfl⟩, rfl⟩
      · have h : ¬ q.kind = 2 := by simpa using h
        rw [if_neg h]
        exact aw_skip ⟨⟨rfl, rfl, rfl⟩, rfl⟩
    intro f' G' ⟨hf, hg⟩
    rw [hg]
    refine AW.of_fsub hf ?_
    refine aw_sr rfl ?_  -- r8 @low.go:130
    simp only [go_sem, reduceIte, Nat.reduceEqDiff, Nat.reduceAdd, Nat.reduceMul, Nat.reduceSub, Nat.reduceLeDiff, Nat.reduceLT, reduceCtorEq, h5]
    refine aw_if rfl (fun h => ?_) (fun h => ?_)
    · have h : q.kind = 6 := by simpa using h
      rw [if_pos h] at hsum'
      refine aw_rg rfl ?_  -- r9 @low.go:131
      simp only [go_sem, reduceIte, Nat.reduceEqDiff, Nat.reduceAdd, Nat.reduceMul, Nat.reduceSub, Nat.reduceLeDiff, Nat.reduceLT, reduceCtorEq, h5]
      refine goP_rm hr hs ?_ fun t' H' hr' hs' hg => ?_
      · exact ⟨rfl, rfl, by decide, wid_ePat _, wid_ePat _, sca_map (g := ePat) (fun a => by rw [ePat_eq]; simp [scalarV]) _, by simp; omega, by simp; omega⟩
      simp only [go_sem, reduceIte, Nat.reduceEqDiff, Nat.reduceAdd, Nat.reduceMul, Nat.reduceSub, Nat.reduceLeDiff, Nat.reduceLT, reduceCtorEq, Bool.false_and, ← List.map_append]
      refine ⟨⟨(n + (if q.kind = 2 then 1 else 0), rest ++ q.args, t', H'), hsum', by simp only [pszs_append]; omega, ?_, hr', hs'⟩, ?_, ?_, sub_rfl⟩
      · intro a ha
        rcases List.mem_append.1 ha with ha | ha
        · exact hok a (by simp [ha])
        · exact hq.arg ha
      · simp only [pszs, pszs_append]; omega
      · simp only [go_sem, reduceIte, Nat.reduceEqDiff, Nat.reduceAdd, Nat.reduceMul, Nat.reduceSub, Nat.reduceLeDiff, Nat.reduceLT, reduceCtorEq]
    · have h : ¬ q.kind = 6 := by simpa using h
      rw [if_neg h, List.append_nil] at hsum'
      refine aw_skip ⟨⟨(n + (if q.kind = 2 then 1 else 0), rest, tg, B2), hsum', by show pszs rest ≤ _; omega, fun a ha => hok a (by simp [ha]), hr, hs⟩, ?_, ?_, sub_rfl⟩
      · simp only [pszs]; omega
      · simp only [go_sem, reduceIte, Nat.reduceEqDiff, Nat.reduceAdd, Nat.reduceMul, Nat.reduceSub, Nat.reduceLeDiff, Nat.reduceLT, reduceCtorEq]
  have hnil : todo = [] := by
    cases todo with
    | nil => rfl
    | cons q rest => simp at h
  subst hnil
  refine aw_exit ?_  -- 0
  refine hK5 _ _ ?_
  refine aw_sr rfl ?_  -- r10 @low.go:134
  simp only [go_sem, reduceIte, Nat.reduceEqDiff, Nat.reduceAdd, Nat.reduceMul, Nat.reduceSub, Nat.reduceLeDiff, Nat.reduceLT, reduceCtorEq]
  refine aw_ret ⟨trivial, _, rfl, ?_, hs⟩
  rw [← hsum]
  exact Vle.refl _
/-! ### operators -/
def opNames : List (List UInt8) := [[43], [45], [42], [47], [37], [60], [61], [94], [110, 111, 116]]
theorem q_Names : Quiet Try.prog 282 [] (.sl (opNames.map eNm) false .no) := by
  refine Quiet.weak fun G => ?_
  refine acall_body (rs := [.tmp 0]) Try.func282 rfl rfl Try.ntmps282 (by kernel_rfl) (Nat.le_of_ble_eq_true rfl) ?_
  refine aw_sr rfl ?_
  simp only [go_sem, reduceIte, Nat.reduceEqDiff, Nat.reduceAdd, Nat.reduceMul, Nat.reduceSub, Nat.reduceLeDiff, Nat.reduceLT, reduceCtorEq]
  refine aw_sr rfl ?_
  simp only [go_sem, reduceIte, Nat.reduceEqDiff, Nat.reduceAdd, Nat.reduceMul, Nat.reduceSub, Nat.reduceLeDiff, Nat.reduceLT, reduceCtorEq]
  exact aw_ret ⟨trivial, _, rfl, Vle.untag, sub_rfl⟩
/-- The number of an operator. -/
def opV : Option Nat → V
  | none => .tup [.int .i64 0, .int .i64 4]
  | some i => .tup [.int .i64 (i : Nat), .int .i64 0]
end Go.Proofs.Ytclmcpbanaojfaa

/- The arguments of 'roadlaw1.ArmsTells' as data; no conditions. -/
set_option linter.unusedVariables false
set_option linter.unusedSimpArgs false
set_option maxRecDepth 100000
namespace Go.Proofs.Ytclmcpbanaojfaa.armsTells
open Go.RowKit Go.Proofs.YtclmcpbanaojfaaV
abbrev e114 := ePat
abbrev o114 := oPat
theorem d114 (n : Nat) : Dec Try.prog 114 e114 o114 n := dPat n
theorem p114 (x : Pat) : 1 ≤ vszL (e114 x) := pPat x
abbrev D107 := List Pat × Bool
def e107 (x : D107) : List V := [.sl (x.1.map e114) x.2 .no]
def o107 (x : D107) : Prop := OkS o114 x
theorem d107 (n : Nat) : Dec Try.prog 107 e107 o107 n := dec_slice (el := 114) (by kernel_rfl) p114 (fun m _ => d114 m)
theorem p107 (x : D107) : 1 ≤ vszL (e107 x) := by simp only [e107, vszL, vsz]; omega
abbrev e110 := eVal
abbrev o110 := oVal
theorem d110 (n : Nat) : Dec Try.prog 110 e110 o110 n := dVal n
theorem p110 (x : Val) : 1 ≤ vszL (e110 x) := pVal x
theorem args {xs : List V} (h : TyAll Try.prog [107, 110] xs) (hs : vszL xs ≤ 1048576) : ∃ (x0 : D107) (x1 : Val), xs = [.sl (x0.1.map e114) x0.2 .no, .agg (e110 x1)] ∧ o107 x0 ∧ o110 x1 := by
  obtain ⟨y0, r0, rfl, h0, y1, r1, rfl, h1, rfl⟩ := h
  simp only [vszL] at hs
  obtain ⟨x0, g0, q0⟩ := dec_one (by kernel_rfl) d107 h0 (by show vsz _ ≤ 1048576; omega)
  obtain ⟨x1, rfl, q1⟩ := dec_agg (by kernel_rfl) d110 h1 (by show vsz _ ≤ 1048576; omega)
  cases g0
  exact ⟨x0, x1, rfl, q0, q1⟩
end Go.Proofs.Ytclmcpbanaojfaa.armsTells

/- Which arm a value fits, as data: patterns, questions, trees of questions. No conditions. -/
set_option linter.unusedSimpArgs false
set_option linter.unusedVariables false
namespace Go.Proofs.Ytclmcpbanaojfaa
open Go.Proofs.YtclmcpbanaojfaaV
namespace ar
/-! ### what a pattern binds -/
def zVl : Val := .mk 0 0 [] [] true
mutual
/-- What a pattern binds of a value; none: it doesn't fit. -/
def fitsF : Pat → Val → Option (List Val)
  | .mk k n t ar _, v =>
    if k = 1 then some []
    else if k = 2 then some [v]
    else if k = 3 then (if v.kind = 2 ∧ v.num = n then some [] else none)
    else if k = 4 then (if v.kind = 3 ∧ v.num = n then some [] else none)
    else if k = 5 then (if v.kind = 4 ∧ v.text = t then some [] else none)
    else if k = 6 then (if v.kind = 5 ∧ v.text = t ∧ v.args.length = ar.length then fitsFs ar v.args else none)
    else none
def fitsFs : List Pat → List Val → Option (List Val)
  | [], _ => some []
  | q :: qs, [] => none
  | q :: qs, v :: vs => match fitsF q v with | some b => (match fitsFs qs vs with | some c => some (b ++ c) | none => none) | none => none
end
theorem fits_eq (p : Pat) (v : Val) : fitsF p v = if p.kind = 1 then some []
    else if p.kind = 2 then some [v]
    else if p.kind = 3 then (if v.kind = 2 ∧ v.num = p.num then some [] else none)
    else if p.kind = 4 then (if v.kind = 3 ∧ v.num = p.num then some [] else none)
    else if p.kind = 5 then (if v.kind = 4 ∧ v.text = p.text then some [] else none)
    else if p.kind = 6 then (if v.kind = 5 ∧ v.text = p.text ∧ v.args.length = p.args.length then fitsFs p.args v.args else none)
    else none := by cases p; rw [fitsF]; rfl
theorem fitss_snoc (q : Pat) (v : Val) : ∀ (ps : List Pat) (vs : List Val), ps.length = vs.length → fitsFs (ps ++ [q]) (vs ++ [v]) = match fitsFs ps vs, fitsF q v with | some a, some b => some (a ++ b) | _, _ => none
  | [], [], _ => by
    simp only [List.nil_append, fitsFs]
    cases fitsF q v <;> simp
  | [], _ :: _, h => by simp at h
  | _ :: _, [], h => by simp at h
  | p :: ps, u :: vs, h => by
    simp only [List.cons_append, fitsFs]
    rw [fitss_snoc q v ps vs (by simpa using h)]
    cases fitsF p u <;> cases fitsFs ps vs <;> cases fitsF q v <;> simp
theorem fitss_take {ps : List Pat} {vs : List Val} {i : Nat} (h1 : i < ps.length) (h2 : i < vs.length) : fitsFs (ps.take (i + 1)) (vs.take (i + 1)) = match fitsFs (ps.take i) (vs.take i), fitsF ps[i] vs[i] with | some a, some b => some (a ++ b) | _, _ => none := by
  rw [List.take_succ_eq_append_getElem h1, List.take_succ_eq_append_getElem h2]
  exact fitss_snoc _ _ _ _ (by simp; omega)
theorem fitss_none : ∀ {ps : List Pat} {vs : List Val} {i : Nat} (h1 : i < ps.length) (h2 : i < vs.length), fitsF ps[i] vs[i] = none → fitsFs ps vs = none
  | p :: ps, v :: vs, 0, _, _, h => by rw [fitsFs]; simp only [List.getElem_cons_zero] at h; rw [h]
  | p :: ps, v :: vs, i + 1, h1, h2, h => by
    rw [fitsFs, fitss_none (i := i) (by simpa using h1) (by simpa using h2) (by simpa using h)]
    cases fitsF p v <;> rfl
mutual
theorem fits_len : ∀ (p : Pat) (v : Val) (b : List Val), fitsF p v = some b → b.length ≤ p.sz
  | .mk k n t ar nl, v, b, h => by
    rw [fitsF] at h
    rw [Pat.sz]
    split at h
    · cases h; simp
    split at h
    · cases h; simp
    split at h
    · split at h <;> cases h; simp
    split at h
    · split at h <;> cases h; simp
    split at h
    · split at h <;> cases h; simp
    split at h
    · split at h
      · have := fitss_len ar v.args b h; omega
      · cases h
    · cases h
theorem fitss_len : ∀ (ps : List Pat) (vs : List Val) (b : List Val), fitsFs ps vs = some b → b.length ≤ pszs ps
  | [], _, b, h => by rw [fitsFs] at h; cases h; simp
  | q :: qs, [], b, h => by rw [fitsFs] at h; cases h
  | q :: qs, v :: vs, b, h => by
    rw [fitsFs] at h
    rw [pszs]
    split at h
    · rename_i a ha
      split at h
      · rename_i c hc
        cases h
        have h1 := fits_len q v a ha
        have h2 := fitss_len qs vs c hc
        rw [List.length_append]; omega
      · cases h
    · cases h
end
/-! ### questions -/
structure Tst where
  path : List Int
  kind : Int
  num : Int
  text : List UInt8
deriving DecidableEq
mutual
/-- The questions of a pattern. -/
def testsF : Pat → List Int → List Tst
  | .mk k n t ar _, path =>
    if k = 3 ∨ k = 4 then [⟨path, k, n, []⟩]
    else if k = 5 then [⟨path, k, 0, t⟩]
    else if k = 6 then ⟨path, k, ar.length, t⟩ :: testsFs ar path 0
    else []
def testsFs : List Pat → List Int → Nat → List Tst
  | [], _, _ => []
  | q :: qs, path, i => testsF q (path ++ [(i : Int)]) ++ testsFs qs path (i + 1)
end
mutual
def questF : Pat → Nat
  | .mk k n t ar _ => if k = 3 ∨ k = 4 ∨ k = 5 then 1 else if k = 6 then 1 + questFs ar else 0
def questFs : List Pat → Nat
  | [] => 0
  | q :: qs => questF q + questFs qs
end
mutual
theorem tests_len : ∀ (p : Pat) (path : List Int), (testsF p path).length = questF p
  | .mk k n t ar b, path => by
    rw [testsF, questF]
    by_cases h3 : k = 3
    · simp [h3]
    by_cases h4 : k = 4
    · simp [h4]
    by_cases h5 : k = 5
    · simp [h5]
    by_cases h6 : k = 6
    · simp [h6, testss_len ar path 0]; omega
    · simp [h3, h4, h5, h6]
theorem testss_len : ∀ (ps : List Pat) (path : List Int) (i : Nat), (testsFs ps path i).length = questFs ps
  | [], path, i => by rw [testsFs, questFs]; rfl
  | q :: qs, path, i => by rw [testsFs, questFs, List.length_append, tests_len q, testss_len qs]
end
/-- The part of a value at a path. -/
def partF : Val → List Int → Option Val
  | v, [] => some v
  | v, i :: is => if v.kind = 5 ∧ 0 ≤ i ∧ i < v.args.length then partF (v.args.getD i.toNat zVl) is else none
theorem part_snoc (i : Int) : ∀ (path : List Int) (v : Val), partF v (path ++ [i]) = (partF v path).bind fun p => partF p [i]
  | [], v => rfl
  | j :: js, v => by
    rw [List.cons_append, partF, partF]
    split
    · exact part_snoc i js _
    · rfl
/-- Is a question answered by yes? -/
def askF (t : Tst) (p : Val) : Bool :=
  if t.kind = 3 then decide (p.kind = 2) && decide (p.num = t.num)
  else if t.kind = 4 then decide (p.kind = 3) && decide (p.num = t.num)
  else if t.kind = 5 then decide (p.kind = 4) && decide (p.text = t.text)
  else if t.kind = 6 then decide (p.kind = 5) && decide (p.text = t.text) && decide ((p.args.length : Int) = t.num)
  else false
def holdsF (t : Tst) (v : Val) : Bool := match partF v t.path with | some p => askF t p | none => false
mutual
/-- Is there a part of no kind? -/
def strangeF : Pat → Bool
  | .mk k n t ar _ => decide (k < 1) || decide (6 < k) || (decide (k = 6) && strangeFs ar)
def strangeFs : List Pat → Bool
  | [] => false
  | q :: qs => strangeF q || strangeFs qs
end
theorem holds_none {v : Val} {path : List Int} (h : partF v path = none) : ∀ {t : Tst}, (∃ r, t.path = path ++ r) → holdsF t v = false := by
  intro t ⟨r, hr⟩
  unfold holdsF
  have : ∀ (r : List Int) (path : List Int), partF v path = none → partF v (path ++ r) = none := by
    intro r
    induction r with
    | nil => intro path h; rw [List.append_nil]; exact h
    | cons i r ih =>
      intro path h
      rw [show path ++ i :: r = (path ++ [i]) ++ r by simp]
      exact ih (path ++ [i]) (by rw [part_snoc, h]; rfl)
  rw [hr, this _ _ h]
mutual
theorem tests_path : ∀ (p : Pat) (path : List Int), ∀ t ∈ testsF p path, ∃ r, t.path = path ++ r
  | .mk k n t ar b, path => by
    rw [testsF]
    intro x hx
    split at hx
    · simp at hx; subst hx; exact ⟨[], by simp⟩
    split at hx
    · simp at hx; subst hx; exact ⟨[], by simp⟩
    split at hx
    · rcases List.mem_cons.1 hx with rfl | hx
      · exact ⟨[], by simp⟩
      · exact testss_path ar path 0 x hx
    · simp at hx
theorem testss_path : ∀ (ps : List Pat) (path : List Int) (i : Nat), ∀ t ∈ testsFs ps path i, ∃ r, t.path = path ++ r
  | [], path, i => by rw [testsFs]; intro x hx; simp at hx
  | q :: qs, path, i => by
    rw [testsFs]
    intro x hx
    rcases List.mem_append.1 hx with hx | hx
    · obtain ⟨r, hr⟩ := tests_path q _ x hx
      exact ⟨(i : Int) :: r, by rw [hr]; simp⟩
    · exact testss_path qs path (i + 1) x hx
end
mutual
/-- All questions of a pattern hold just where it fits. -/
theorem tests_fit (v : Val) : ∀ (p : Pat) (path : List Int) (q : Val), strangeF p = false → partF v path = some q → (testsF p path).all (fun t => holdsF t v) = (fitsF p q).isSome
  | .mk k n t ar b, path, q, hs, hq => by
    rw [strangeF] at hs
    simp only [Bool.or_eq_false_iff, decide_eq_false_iff_not] at hs
    have hk : k = 1 ∨ k = 2 ∨ k = 3 ∨ k = 4 ∨ k = 5 ∨ k = 6 := by omega
    rw [testsF, fitsF]
    rcases hk with rfl | rfl | rfl | rfl | rfl | rfl
    · simp
    · simp
    · simp [holdsF, hq, askF]; split <;> simp_all
    · simp [holdsF, hq, askF]; split <;> simp_all
    · simp [holdsF, hq, askF]; split <;> simp_all
    · have hs2 : strangeFs ar = false := by simpa using hs.2
      simp only [show ¬ ((6 : Int) = 3 ∨ (6 : Int) = 4) by decide, show ¬ ((6 : Int) = 5) by decide, show ¬ ((6 : Int) = 1) by decide, show ¬ ((6 : Int) = 2) by decide, show ¬ ((6 : Int) = 3) by decide, show ¬ ((6 : Int) = 4) by decide, or_self, if_false, if_true, List.all_cons]
      have h0 : holdsF ⟨path, 6, ar.length, t⟩ v = (decide (q.kind = 5) && decide (q.text = t) && decide ((q.args.length : Int) = (ar.length : Int))) := by
        simp [holdsF, hq, askF]
      rw [h0]
      by_cases h : q.kind = 5 ∧ q.text = t ∧ q.args.length = ar.length
      · rw [if_pos h, testss_fit v ar path 0 q q.args hs2 hq h.1 (by simp) (by omega)]
        simp [h.1, h.2.1, h.2.2]
      · rw [if_neg h]
        have : (decide (q.kind = 5) && decide (q.text = t) && decide ((q.args.length : Int) = (ar.length : Int))) = false := by
          rw [Bool.eq_false_iff]
          intro hh
          simp only [Bool.and_eq_true, decide_eq_true_eq] at hh
          exact h ⟨hh.1.1, hh.1.2, by omega⟩
        rw [this]; rfl
theorem testss_fit (v : Val) : ∀ (ps : List Pat) (path : List Int) (i : Nat) (q : Val) (vs : List Val), strangeFs ps = false → partF v path = some q → q.kind = 5 → vs = q.args.drop i → q.args.length = i + ps.length →
    (testsFs ps path i).all (fun t => holdsF t v) = (fitsFs ps vs).isSome
  | [], path, i, q, vs, hs, hq, hk, hv, hl => by rw [testsFs, fitsFs]; rfl
  | p :: ps, path, i, q, vs, hs, hq, hk, hv, hl => by
    rw [strangeFs, Bool.or_eq_false_iff] at hs
    have hi : i < q.args.length := by rw [hl]; simp
    have hd : q.args.drop i = q.args[i] :: q.args.drop (i + 1) := List.drop_eq_getElem_cons hi
    have hp : partF v (path ++ [(i : Int)]) = some q.args[i] := by
      rw [part_snoc, hq]
      show partF q [(i : Int)] = _
      rw [partF, if_pos ⟨hk, by omega, by omega⟩, partF, Int.toNat_natCast, List.getD_eq_getElem?_getD, List.getElem?_eq_getElem hi]; rfl
    rw [hv, hd, testsFs, fitsFs, List.all_append, tests_fit v p _ _ hs.1 hp, testss_fit v ps path (i + 1) q _ hs.2 hq hk rfl (by rw [hl]; simp; omega)]
    cases fitsF p q.args[i] with
    | none => rfl
    | some b => cases fitsFs ps (q.args.drop (i + 1)) <;> rfl
end
/-! ### trees of questions -/
/-- A question as it is made: nothing stands in it that is not asked. -/
def Nrm (t : Tst) : Prop := ((t.kind = 3 ∨ t.kind = 4) ∧ t.text = []) ∨ (t.kind = 5 ∧ t.num = 0) ∨ t.kind = 6
mutual
theorem tests_nrm : ∀ (p : Pat) (path : List Int), ∀ t ∈ testsF p path, Nrm t
  | .mk k n t ar b, path => by
    rw [testsF]
    intro x hx
    split at hx
    · rename_i h; simp at hx; subst hx; exact .inl ⟨h, rfl⟩
    split at hx
    · rename_i h; simp at hx; subst hx; exact .inr (.inl ⟨h, rfl⟩)
    split at hx
    · rename_i h
      rcases List.mem_cons.1 hx with rfl | hx
      · exact .inr (.inr h)
      · exact testss_nrm ar path 0 x hx
    · simp at hx
theorem testss_nrm : ∀ (ps : List Pat) (path : List Int) (i : Nat), ∀ t ∈ testsFs ps path i, Nrm t
  | [], path, i => by rw [testsFs]; intro x hx; simp at hx
  | q :: qs, path, i => by
    rw [testsFs]
    intro x hx
    rcases List.mem_append.1 hx with hx | hx
    · exact tests_nrm q _ x hx
    · exact testss_nrm qs path (i + 1) x hx
end
/-- Two questions at one place that both hold are one. -/
theorem ask_one {a b : Tst} {v : Val} (ha : Nrm a) (hb : Nrm b) (hp : a.path = b.path) (h1 : holdsF a v = true) (h2 : holdsF b v = true) : a = b := by
  unfold holdsF at h1 h2
  rw [hp] at h1
  cases hq : partF v b.path with
  | none => rw [hq] at h2; cases h2
  | some q =>
    rw [hq] at h1 h2
    simp only at h1 h2
    obtain ⟨p1, k1, n1, t1⟩ := a
    obtain ⟨p2, k2, n2, t2⟩ := b
    simp only at hp
    subst hp
    unfold Nrm at ha hb
    simp only at ha hb
    have e1 : k1 = 3 ∨ k1 = 4 ∨ k1 = 5 ∨ k1 = 6 := by omega
    have e2 : k2 = 3 ∨ k2 = 4 ∨ k2 = 5 ∨ k2 = 6 := by omega
    unfold askF at h1 h2
    simp only at h1 h2
    rcases e1 with rfl | rfl | rfl | rfl <;> rcases e2 with rfl | rfl | rfl | rfl <;> simp at h1 h2 ha hb ⊢ <;> simp_all <;> omega
/-- Do they ask the same? -/
def sameT (a b : Tst) : Bool := decide (a.path = b.path) && decide (a.kind = b.kind) && decide (a.num = b.num) && decide (a.text = b.text)
theorem sameT_iff {a b : Tst} : sameT a b = true ↔ a = b := by
  cases a; cases b; simp [sameT, and_assoc]
abbrev Row := Int × List Tst × Bool
inductive Tr where
  | leaf (arm : Int)
  | ask (t : Tst) (yes no : Tr)
def yesR (t : Tst) (r : Row) : Option Row := match r.2.1.findIdx? (fun x => sameT x t) with
  | some i => some (r.1, r.2.1.eraseIdx i, false)
  | none => match r.2.1.findIdx? (fun x => decide (x.path = t.path)) with
    | some _ => none
    | none => some r
def noR (t : Tst) (r : Row) : Option Row := match r.2.1.findIdx? (fun x => sameT x t) with
  | some _ => none
  | none => some r
def yesF (t : Tst) (l : List Row) : List Row := l.filterMap (yesR t)
def noF (t : Tst) (l : List Row) : List Row := l.filterMap (noR t)
def buildF : Nat → List Row → Tr
  | _, [] => .leaf (-1)
  | n, (a, [], _) :: _ => .leaf a
  | 0, _ => .leaf (-1)
  | n + 1, (a, t :: ts, b) :: l => .ask t (buildF n (yesF t ((a, t :: ts, b) :: l))) (buildF n (noF t ((a, t :: ts, b) :: l)))
def tot (l : List Row) : Nat := (l.map fun r => r.2.1.length).sum
def pickF (v : Val) : Tr → Int × Nat
  | .leaf a => (a, 0)
  | .ask t y n => let r := if holdsF t v = true then pickF v y else pickF v n; (r.1, r.2 + 1)
def firstR (v : Val) (l : List Row) : Int := match l.find? fun r => r.2.1.all fun t => holdsF t v with | some r => r.1 | none => -1
theorem tot_cons (r : Row) (l : List Row) : tot (r :: l) = r.2.1.length + tot l := by simp [tot]
theorem yesR_len {t : Tst} {r r' : Row} (h : yesR t r = some r') : r'.2.1.length ≤ r.2.1.length := by
  unfold yesR at h
  split at h
  · cases h; simp only [List.length_eraseIdx]; split <;> omega
  · split at h
    · cases h
    · cases h; omega
theorem tot_yes (t : Tst) : ∀ l, tot (yesF t l) ≤ tot l
  | [] => Nat.le_refl _
  | r :: l => by
    have ih := tot_yes t l
    unfold yesF at ih ⊢
    rw [List.filterMap_cons, tot_cons]
    cases h : yesR t r with
    | none => exact Nat.le_trans ih (by omega)
    | some r' => simp only [tot_cons]; have := yesR_len h; omega
theorem tot_no (t : Tst) : ∀ l, tot (noF t l) ≤ tot l
  | [] => Nat.le_refl _
  | r :: l => by
    have ih := tot_no t l
    unfold noF at ih ⊢
    rw [List.filterMap_cons, tot_cons]
    cases h : noR t r with
    | none => exact Nat.le_trans ih (by omega)
    | some r' =>
      have : r' = r := by unfold noR at h; split at h <;> simp_all
      subst this
      simp only [tot_cons]; omega
theorem yes_head (a : Int) (t : Tst) (ts : List Tst) (b : Bool) (l : List Row) : yesF t ((a, t :: ts, b) :: l) = (a, ts, false) :: yesF t l := by
  unfold yesF
  rw [List.filterMap_cons]
  have : yesR t (a, t :: ts, b) = some (a, ts, false) := by
    unfold yesR
    have h0 : (t :: ts).findIdx? (fun x => sameT x t) = some 0 := by
      rw [List.findIdx?_cons, sameT_iff.2 rfl]; rfl
    simp only [h0, List.eraseIdx_cons_zero]
  rw [this]
theorem no_head (a : Int) (t : Tst) (ts : List Tst) (b : Bool) (l : List Row) : noF t ((a, t :: ts, b) :: l) = noF t l := by
  unfold noF
  rw [List.filterMap_cons]
  have : noR t (a, t :: ts, b) = none := by
    unfold noR
    have h0 : (t :: ts).findIdx? (fun x => sameT x t) = some 0 := by
      rw [List.findIdx?_cons, sameT_iff.2 rfl]; rfl
    simp only [h0]
  rw [this]
theorem all_erase {v : Val} {t : Tst} (ht : holdsF t v = true) : ∀ {ts : List Tst} {i : Nat}, ts.findIdx? (fun x => sameT x t) = some i → (ts.eraseIdx i).all (fun x => holdsF x v) = ts.all fun x => holdsF x v
  | [], i, h => by simp at h
  | x :: xs, i, h => by
    rw [List.findIdx?_cons] at h
    cases hx : sameT x t with
    | true =>
      rw [hx] at h
      simp at h
      subst h
      have := sameT_iff.1 hx
      subst this
      simp [ht]
    | false =>
      rw [hx] at h
      simp only [Bool.false_eq_true, if_false, Option.map_eq_some_iff] at h
      obtain ⟨j, hj, rfl⟩ := h
      rw [List.eraseIdx_cons_succ, List.all_cons, List.all_cons, all_erase ht hj]
theorem first_cons (v : Val) (r : Row) (l : List Row) : firstR v (r :: l) = if (r.2.1.all fun t => holdsF t v) = true then r.1 else firstR v l := by
  unfold firstR
  rw [List.find?_cons]
  cases (r.2.1.all fun t => holdsF t v) <;> rfl
theorem first_yes {v : Val} {t : Tst} (ht : holdsF t v = true) (hn : Nrm t) : ∀ l : List Row, (∀ r ∈ l, ∀ x ∈ r.2.1, Nrm x) → firstR v (yesF t l) = firstR v l
  | [], _ => rfl
  | r :: l, hl => by
    have ih := first_yes ht hn l fun r hr => hl r (by simp [hr])
    unfold yesF at ih ⊢
    rw [List.filterMap_cons, first_cons]
    cases h1 : r.2.1.findIdx? (fun x => sameT x t) with
    | some i =>
      have : yesR t r = some (r.1, r.2.1.eraseIdx i, false) := by unfold yesR; rw [h1]
      rw [this]
      simp only
      rw [first_cons, ih, all_erase ht h1]
    | none =>
      cases h2 : r.2.1.findIdx? (fun x => decide (x.path = t.path)) with
      | none =>
        have : yesR t r = some r := by unfold yesR; rw [h1, h2]
        rw [this]
        simp only
        rw [first_cons, ih]
      | some i =>
        have : yesR t r = none := by unfold yesR; rw [h1, h2]
        rw [this]
        simp only
        rw [ih]
        obtain ⟨hi, h3, _⟩ := List.findIdx?_eq_some_iff_getElem.1 h2
        have hmem := List.getElem_mem hi
        have hns : sameT r.2.1[i] t = false := List.findIdx?_eq_none_iff.1 h1 _ hmem
        have hno : holdsF r.2.1[i] v = false := by
          cases hh : holdsF r.2.1[i] v with
          | false => rfl
          | true =>
            have := ask_one (hl r (by simp) _ hmem) hn (by simpa using h3) hh ht
            rw [this, sameT_iff.2 rfl] at hns
            cases hns
        rw [if_neg]
        intro hall
        have := List.all_eq_true.1 hall _ hmem
        rw [hno] at this
        cases this
theorem first_no {v : Val} {t : Tst} (ht : holdsF t v = false) : ∀ l : List Row, firstR v (noF t l) = firstR v l
  | [] => rfl
  | r :: l => by
    have ih := first_no ht l
    unfold noF at ih ⊢
    rw [List.filterMap_cons, first_cons]
    cases h1 : r.2.1.findIdx? (fun x => sameT x t) with
    | none =>
      have : noR t r = some r := by unfold noR; rw [h1]
      rw [this]
      simp only
      rw [first_cons, ih]
    | some i =>
      have : noR t r = none := by unfold noR; rw [h1]
      rw [this]
      simp only
      rw [ih]
      obtain ⟨hi, h3, _⟩ := List.findIdx?_eq_some_iff_getElem.1 h1
      have e := sameT_iff.1 h3
      rw [if_neg]
      intro hall
      have := List.all_eq_true.1 hall _ (List.getElem_mem hi)
      rw [e, ht] at this
      cases this
theorem yes_nrm {t : Tst} {l : List Row} (hl : ∀ r ∈ l, ∀ x ∈ r.2.1, Nrm x) : ∀ r ∈ yesF t l, ∀ x ∈ r.2.1, Nrm x := by
  intro r hr x hx
  obtain ⟨r0, h0, h1⟩ := List.mem_filterMap.1 hr
  unfold yesR at h1
  split at h1
  · cases h1; exact hl r0 h0 x (List.mem_of_mem_eraseIdx hx)
  · split at h1
    · cases h1
    · cases h1; exact hl _ h0 x hx
theorem no_nrm {t : Tst} {l : List Row} (hl : ∀ r ∈ l, ∀ x ∈ r.2.1, Nrm x) : ∀ r ∈ noF t l, ∀ x ∈ r.2.1, Nrm x := by
  intro r hr x hx
  obtain ⟨r0, h0, h1⟩ := List.mem_filterMap.1 hr
  unfold noR at h1
  split at h1
  · cases h1
  · cases h1; exact hl _ h0 x hx
/-- A tree finds the first row all of whose questions hold, and asks no more than all of them. -/
theorem pick_build (v : Val) : ∀ (n : Nat) (l : List Row), tot l ≤ n → (∀ r ∈ l, ∀ x ∈ r.2.1, Nrm x) → (pickF v (buildF n l)).1 = firstR v l ∧ (pickF v (buildF n l)).2 ≤ n
  | n, [], h, _ => by rw [show buildF n [] = .leaf (-1) by cases n <;> rfl]; exact ⟨rfl, Nat.zero_le _⟩
  | n, (a, [], b) :: l, h, _ => by
    rw [show buildF n ((a, [], b) :: l) = .leaf a by cases n <;> rfl]
    exact ⟨by rw [first_cons]; rfl, Nat.zero_le _⟩
  | 0, (a, t :: ts, b) :: l, h, _ => by rw [tot_cons] at h; simp at h
  | n + 1, (a, t :: ts, b) :: l, h, hl => by
    rw [buildF, pickF]
    have hn : Nrm t := hl (a, t :: ts, b) (by simp) t (by simp)
    rw [tot_cons] at h
    simp only [List.length_cons] at h
    cases ht : holdsF t v with
    | true =>
      rw [if_pos rfl]
      have htot : tot (yesF t ((a, t :: ts, b) :: l)) ≤ n := by
        rw [yes_head, tot_cons]; have := tot_yes t l; simp only; omega
      obtain ⟨h1, h2⟩ := pick_build v n (yesF t ((a, t :: ts, b) :: l)) htot (yes_nrm hl)
      exact ⟨by rw [h1, first_yes ht hn _ hl], by simp only; omega⟩
    | false =>
      rw [if_neg (by simp)]
      have htot : tot (noF t ((a, t :: ts, b) :: l)) ≤ n := by
        rw [no_head]; have := tot_no t l; omega
      obtain ⟨h1, h2⟩ := pick_build v n (noF t ((a, t :: ts, b) :: l)) htot (no_nrm hl)
      exact ⟨by rw [h1, first_no ht], by simp only; omega⟩
end ar
end Go.Proofs.Ytclmcpbanaojfaa

set_option linter.unusedSimpArgs false
set_option linter.unusedVariables false
namespace Go.Proofs.Ytclmcpbanaojfaa
open Go.Proofs.YtclmcpbanaojfaaV
set_option maxHeartbeats 400000
set_option maxRecDepth 100000
/-- A letter that no name has at place i. -/
def badAt (i : Nat) (c : UInt8) : Bool := (decide ((c.toNat : Int) < 97) || decide ((c.toNat : Int) > 122)) && (decide ((i : Int) = 0) || (decide ((c.toNat : Int) ≠ 95) && (decide ((c.toNat : Int) < 48) || decide ((c.toNat : Int) > 57))))
def isName (s : List UInt8) : Bool := (List.range s.length).all (fun i => !badAt i (s.getD i 0)) && (decide ((s.length : Int) ≥ 1) && decide ((s.length : Int) ≤ 16))
end Go.Proofs.Ytclmcpbanaojfaa

set_option linter.unusedSimpArgs false
set_option linter.unusedVariables false
namespace Go.Proofs.Ytclmcpbanaojfaa
open Go.Proofs.YtclmcpbanaojfaaV
set_option maxHeartbeats 400000
set_option maxRecDepth 100000
/-- api.Use: a name, a low version, a high one. -/
def eUse (u : List UInt8 × Int × Int) : List V := [.str u.1, .int .i64 u.2.1, .int .i64 u.2.2]
theorem sca_use (us : List (List UInt8 × Int × Int)) : sca (us.map eUse) := by
  intro e he x hx
  obtain ⟨u, _, rfl⟩ := List.mem_map.1 he
  simp only [eUse, List.mem_cons, List.not_mem_nil, or_false] at hx
  rcases hx with rfl | rfl | rfl <;> rfl
end Go.Proofs.Ytclmcpbanaojfaa

set_option linter.unusedSimpArgs false
set_option linter.unusedVariables false
namespace Go.Proofs.Ytclmcpbanaojfaa
open Go.Proofs.YtclmcpbanaojfaaV
set_option maxHeartbeats 400000
set_option maxRecDepth 100000
def useBad (u : List UInt8 × Int × Int) : Bool := decide (u.2.1 < 1) || decide (9999 < u.2.2) || decide (u.2.2 < u.2.1)
/-- What is wrong with uses: the first that is wrong says it. -/
def usesF : List (List UInt8 × Int × Int) → Int
  | [] => 0
  | u :: us => if isName u.1 = false then 11 else if useBad u = true then 1 else usesF us
theorem hsub_cons {G : Heap} {b : Nat} {o : AObj} (h : hget G b = none) : ∀ b' o', hget G b' = some o' → hget ((b, o) :: G) b' = some o' := by
  intro b' o' h'
  rw [hget_cons, if_neg]
  · exact h'
  · intro e; subst e; rw [h] at h'; cases h'
theorem hset_self {G : Heap} {b : Nat} {o x : AObj} : hset ((b, o) :: G) b x = (b, x) :: G := by simp [hset]
attribute [go_sem] hget_self hset_self List.all_cons List.all_nil scalarV Nat.zero_add
end Go.Proofs.Ytclmcpbanaojfaa

set_option linter.unusedSimpArgs false
set_option linter.unusedVariables false
namespace Go.Proofs.Ytclmcpbanaojfaa
open Go.Proofs.YtclmcpbanaojfaaV
set_option maxHeartbeats 400000
set_option maxRecDepth 100000
abbrev cV (v : Val) : List V := [.int .i64 v.kind, .int .i64 v.num, .str v.text, .sl (v.args.map eVal) v.nl .no]
theorem eC (v : Val) : eVal v = cV v := eVal_eq v
theorem q_EqualFuncV (F : FuncId) (us ws : List V) (f : Val → Val → Bool) (xs ys : List Val) (n1 n2 : Bool) (t1 t2 : Tag) (hx : (xs.length : Int) ≤ 9223372036854775807)
    (hF : ∀ a ∈ xs, ∀ b ∈ ys, Quiet Try.prog F (us ++ [.agg (cV a), .agg (cV b)] ++ ws) (.bool (f a b))) :
    Quiet Try.prog 57 [.sl (xs.map eVal) n1 t1, .sl (ys.map eVal) n2 t2, .func (.func F) us ws] (.bool (eqF f xs ys)) := by
  refine Quiet.weak fun G => ?_
  refine acall_body (rs := [.tmp 6]) Try.func57 rfl rfl Try.ntmps57 (by kernel_rfl) (Nat.le_of_ble_eq_true rfl) ?_
  refine aw_sr rfl ?_
  simp only [go_sem, reduceIte, Nat.reduceEqDiff, Nat.reduceAdd, Nat.reduceMul, Nat.reduceSub, Nat.reduceLeDiff, Nat.reduceLT, reduceCtorEq]
  refine aw_seq fun K1 hK1 => ?_
  refine aw_sr rfl ?_
  simp only [go_sem, reduceIte, Nat.reduceEqDiff, Nat.reduceAdd, Nat.reduceMul, Nat.reduceSub, Nat.reduceLeDiff, Nat.reduceLT, reduceCtorEq]
  refine aw_if rfl (fun h => ?_) (fun h => ?_)
  · refine aw_sr rfl ?_
    simp only [go_sem, reduceIte, Nat.reduceEqDiff, Nat.reduceAdd, Nat.reduceMul, Nat.reduceSub, Nat.reduceLeDiff, Nat.reduceLT, reduceCtorEq]
    refine aw_ret ⟨trivial, _, rfl, ?_, fun _ _ h => h⟩
    have h : ¬ xs.length = ys.length := by simpa [Int.natCast_inj] using h
    rw [eqF, decide_eq_false h]
    exact Vle.refl _
  · refine aw_skip (hK1 _ _ ?_)
    have hl : xs.length = ys.length := by simpa [Int.natCast_inj] using h
    refine aw_seq fun K2 hK2 => ?_
    refine aw_sr rfl ?_
    simp only [go_sem, reduceIte, Nat.reduceEqDiff, Nat.reduceAdd, Nat.reduceMul, Nat.reduceSub, Nat.reduceLeDiff, Nat.reduceLT, reduceCtorEq]
    refine aw_range xs.length (S := Unit) (fun _ _ => [(15, .sl (xs.map eVal) n1 t1), (1, .sl (ys.map eVal) n2 t2), (2, .func (.func F) us ws)]) (fun _ _ => G) (fun i _ => ((xs.take i).zip (ys.take i)).all (fun p => f p.1 p.2) = true) () hx ?_ (fun _ _ h => h) rfl rfl (fun _ _ => rfl) ?_ ?_ (by decide)
    · simp only [go_sem, reduceIte, Nat.reduceEqDiff, Nat.reduceAdd, Nat.reduceMul, Nat.reduceSub, Nat.reduceLeDiff, Nat.reduceLT, reduceCtorEq, Int.natCast_zero]
    · intro i _ hi he
      have hi2 : i < ys.length := hl ▸ hi
      refine aw_sr rfl ?_
      simp only [go_sem, reduceIte, Nat.reduceEqDiff, Nat.reduceAdd, Nat.reduceMul, Nat.reduceSub, Nat.reduceLeDiff, Nat.reduceLT, reduceCtorEq, getD_map hi, getD_map hi2, eC, cV]
      refine ⟨⟨by omega, by omega, wid_map (g := eVal) (fun _ => by simp [eC, cV]) _⟩, fun b hb => ?_⟩
      refine aw_sr rfl ?_
      simp only [go_sem, reduceIte, Nat.reduceEqDiff, Nat.reduceAdd, Nat.reduceMul, Nat.reduceSub, Nat.reduceLeDiff, Nat.reduceLT, reduceCtorEq, getD_map hi, getD_map hi2, eC, cV]
      refine ⟨⟨by omega, by omega, wid_map (g := eVal) (fun _ => by simp [eC, cV]) _⟩, fun b2 hb2 => ?_⟩
      have hne : ¬ b2 = b := by intro e; subst e; rw [hget_cons, if_pos rfl] at hb2; cases hb2
      refine aw_sr rfl ?_
      simp only [go_sem, reduceIte, Nat.reduceEqDiff, Nat.reduceAdd, Nat.reduceMul, Nat.reduceSub, Nat.reduceLeDiff, Nat.reduceLT, reduceCtorEq, hget_cons, hne]
      have hq := hF _ (List.getElem_mem hi) _ (List.getElem_mem hi2)
      refine goA_q hq ?_
      simp only [go_sem, reduceIte, Nat.reduceEqDiff, Nat.reduceAdd, Nat.reduceMul, Nat.reduceSub, Nat.reduceLeDiff, Nat.reduceLT, reduceCtorEq]
      refine aw_if rfl (fun h => ?_) (fun h => ?_)
      · refine aw_sr rfl ?_
        simp only [go_sem, reduceIte, Nat.reduceEqDiff, Nat.reduceAdd, Nat.reduceMul, Nat.reduceSub, Nat.reduceLeDiff, Nat.reduceLT, reduceCtorEq]
        refine aw_ret ⟨trivial, _, rfl, ?_, fun b' o' h => hsub_cons hb2 _ _ (hsub_cons hb _ _ h)⟩
        rw [eqF, all_zip_not (q := fun p => f p.1 p.2) hi hi2 (by simpa using h), Bool.and_false]
        exact Vle.refl _
      · refine aw_skip ⟨(), all_zip_next (q := fun p => f p.1 p.2) he hi hi2 (by simpa using h), ?_, fun b' o' h => hsub_cons hb2 _ _ (hsub_cons hb _ _ h)⟩
        simp only [go_sem, reduceIte, Nat.reduceEqDiff, Nat.reduceAdd, Nat.reduceMul, Nat.reduceSub, Nat.reduceLeDiff, Nat.reduceLT, reduceCtorEq]
    · intro _ he
      refine hK2 _ _ ?_
      refine aw_sr rfl ?_
      simp only [go_sem, reduceIte, Nat.reduceEqDiff, Nat.reduceAdd, Nat.reduceMul, Nat.reduceSub, Nat.reduceLeDiff, Nat.reduceLT, reduceCtorEq]
      refine aw_ret ⟨trivial, _, rfl, ?_, fun _ _ h => h⟩
      rw [eqF, decide_eq_true hl, Bool.true_and]
      rw [List.take_length, hl, List.take_length] at he
      rw [he]
      exact Vle.refl _
theorem q_sameValue0 : ∀ (n : Nat) (a b : Val), a.sz ≤ n → OkVal a → Quiet Try.prog 129 [.agg (cV a), .agg (cV b)] (.bool (sameV a b)) := by
  intro n
  induction n with
  | zero => intro a b h; have := a.sz_eq; omega
  | succ n ih =>
    intro a b h ho
    have hq : Quiet Try.prog 57 [.sl (a.args.map eVal) a.nl .no, .sl (b.args.map eVal) b.nl .no, .func (.func 129) [] []] (.bool (eqF sameV a.args b.args)) :=
      q_EqualFuncV _ [] [] sameV a.args b.args _ _ _ _ (le_bulk ho.len) fun x hx y hy => ih x y (by have := Val.sz_args hx; omega) (ho.arg hx)
    refine Quiet.weak fun G => ?_
    refine acall_body (rs := [.tmp 4]) Try.func129 rfl rfl Try.ntmps129 (by kernel_rfl) (Nat.le_of_ble_eq_true rfl) ?_
    refine aw_sr rfl ?_
    simp only [go_sem, reduceIte, Nat.reduceEqDiff, Nat.reduceAdd, Nat.reduceMul, Nat.reduceSub, Nat.reduceLeDiff, Nat.reduceLT, reduceCtorEq]
    intro b1 hb b2 hb2
    have hne : ¬ b2 = b1 := by intro e; subst e; rw [hget_cons, if_pos rfl] at hb2; cases hb2
    refine aw_sr rfl ?_
    simp only [go_sem, reduceIte, Nat.reduceEqDiff, Nat.reduceAdd, Nat.reduceMul, Nat.reduceSub, Nat.reduceLeDiff, Nat.reduceLT, reduceCtorEq, hget_cons, hne]
    refine goH_q (fun hg => hq) ?_
    simp only [go_sem, reduceIte, Nat.reduceEqDiff, Nat.reduceAdd, Nat.reduceMul, Nat.reduceSub, Nat.reduceLeDiff, Nat.reduceLT, reduceCtorEq]
    refine aw_ret ⟨trivial, _, rfl, ?_, fun b' o' h => hsub_cons hb2 _ _ (hsub_cons hb _ _ h)⟩
    rw [sameV_eq]
    exact Vle.refl _
theorem q_sameValue (a b : Val) (h : OkVal a) : Quiet Try.prog 129 [.agg (cV a), .agg (cV b)] (.bool (sameV a b)) := q_sameValue0 _ a b (Nat.le_refl _) h
theorem q_sameValues (xs ys : List Val) (n1 n2 : Bool) (t1 t2 : Tag) (hx : (xs.length : Int) ≤ 9223372036854775807) (ho : ∀ a ∈ xs, OkVal a) :
    Quiet Try.prog 57 [.sl (xs.map eVal) n1 t1, .sl (ys.map eVal) n2 t2, .func (.func 129) [] []] (.bool (eqF sameV xs ys)) :=
  q_EqualFuncV _ [] [] sameV xs ys _ _ _ _ hx fun x hx y hy => q_sameValue x y (ho x hx)
/-- An input: its kind, its value. -/
abbrev Inp := Int × Val
abbrev cIn (x : Inp) : List V := .int .i64 x.1 :: cV x.2
def eIn (x : Inp) : List V := cIn x
def sameI (a b : Inp) : Bool := decide (a.1 = b.1) && sameV a.2 b.2
/-- What is saved: an actor, its state, its inputs. -/
abbrev Sav := List UInt8 × (List Val × Bool) × (List Inp × Bool)
abbrev cSav (s : Sav) : List V := [.str s.1, .sl (s.2.1.1.map eVal) s.2.1.2 .no, .sl (s.2.2.1.map eIn) s.2.2.2 .no]
def sameSav (a b : Sav) : Bool := decide (a.1 = b.1) && eqF sameV a.2.1.1 b.2.1.1 && eqF sameI a.2.2.1 b.2.2.1
end Go.Proofs.Ytclmcpbanaojfaa

set_option linter.unusedSimpArgs false
set_option linter.unusedVariables false
namespace Go.Proofs.Ytclmcpbanaojfaa
open Go.Proofs.YtclmcpbanaojfaaV
set_option maxHeartbeats 400000
set_option maxRecDepth 100000
def nextF (vs : List Val) : List Val := vs.flatMap Val.args
theorem szs_next : ∀ vs, szs (nextF vs) + vs.length = szs vs
  | [] => rfl
  | v :: vs => by
    have := szs_next vs
    have := v.sz_eq
    simp only [nextF, List.flatMap_cons, szs_append, szs, List.length_cons] at *
    omega
theorem szs_take (vs : List Val) (i : Nat) : szs (vs.take i) ≤ szs vs := by
  have := szs_append (vs.take i) (vs.drop i)
  rw [List.take_append_drop] at this
  omega
theorem nextF_take {vs : List Val} {i : Nat} (h : i < vs.length) : nextF (vs.take (i + 1)) = nextF (vs.take i) ++ vs[i].args := by
  rw [List.take_succ_eq_append_getElem h, nextF, List.flatMap_append]; simp [nextF]
theorem nextF_len (vs : List Val) (i : Nat) : (nextF (vs.take i)).length ≤ szs vs := by
  have := szs_len (nextF (vs.take i))
  have := szs_next (vs.take i)
  have := szs_take vs i
  omega
theorem wid_eVal (vs : List Val) : wid 4 (vs.map eVal) := wid_map (g := eVal) (fun _ => by rw [eC]; rfl) _
theorem sca_eVal (vs : List Val) : sca (vs.map eVal) := by
  intro e he x hx
  obtain ⟨u, _, rfl⟩ := List.mem_map.1 he
  rw [eC] at hx
  simp only [cV, List.mem_cons, List.not_mem_nil, or_false] at hx
  rcases hx with rfl | rfl | rfl | rfl <;> rfl
/-- Is a value small, level by level? -/
def smallL : Nat → List Val → Nat → Bool
  | 0, _, _ => false
  | k + 1, now, n => if now = [] then true else if k = 0 ∨ 3000 < n + now.length then false else smallL k (nextF now) (n + now.length)
structure SmS where
  now : List Val
  n : Nat
  deep : Nat
  nl : Bool
  t : Tag
def smallV (v : Val) : Bool := smallL 302 [v] 0
end Go.Proofs.Ytclmcpbanaojfaa

/- Slices of numbers and of truths: where one stands, copies. No conditions but sizes. -/
set_option linter.unusedSimpArgs false
set_option linter.unusedVariables false
namespace Go.Proofs.Ytclmcpbanaojfaa
open Go.Proofs.YtclmcpbanaojfaaV
set_option maxHeartbeats 1000000
set_option maxRecDepth 100000
namespace mk
def eN (n : Int) : List V := [.int .i64 n]
theorem wid_eN (l : List Int) : wid 1 (l.map eN) := wid_map (g := eN) (fun _ => rfl) _
theorem sca_eN (l : List Int) : sca (l.map eN) := sca_map (g := eN) (fun a x hx => by simp [eN] at hx; subst hx; rfl) _
def idxF {A : Type} (f : A → Bool) (xs : List A) : Int := if xs.findIdx f < xs.length then (xs.findIdx f : Int) else -1
theorem idxF_at {A : Type} {f : A → Bool} {xs : List A} {i : Nat} (hi : i < xs.length) (h : f xs[i] = true) (hb : ∀ j (hj : j < i), f xs[j] = false) : idxF f xs = (i : Int) := by
  have e : xs.findIdx f = i := (List.findIdx_eq hi).2 ⟨h, fun j hj => hb j hj⟩
  rw [idxF, e, if_pos hi]
theorem idxF_none {A : Type} {f : A → Bool} {xs : List A} (h : ∀ j (hj : j < xs.length), f xs[j] = false) : idxF f xs = -1 := by
  rw [idxF, if_neg]
  intro hlt
  have h1 := List.findIdx_getElem (w := hlt)
  rw [h _ hlt] at h1
  cases h1
theorem idxF_any {A : Type} (f : A → Bool) (xs : List A) : decide (idxF f xs ≥ 0) = xs.any f := by
  rw [Bool.eq_iff_iff, decide_eq_true_eq, List.any_eq_true]
  constructor
  · intro h
    unfold idxF at h
    split at h
    · rename_i hlt; exact ⟨_, List.getElem_mem hlt, List.findIdx_getElem (w := hlt)⟩
    · omega
  · rintro ⟨x, hx, hf⟩
    have := List.findIdx_lt_length_of_exists ⟨x, hx, hf⟩
    rw [idxF, if_pos this]; omega
end mk
open mk in
theorem q_IndexN (xs : List Int) (nl : Bool) (t : Tag) (s : Int) (hx : (xs.length : Int) ≤ 9223372036854775807) :
    Quiet Try.prog 244 [.sl (xs.map eN) nl t, .int .i64 s] (.int .i64 (idxF (fun x => decide (s = x)) xs)) := by
  refine Quiet.weak fun G => ?_
  refine acall_body (rs := [.tmp 4]) Try.func244 rfl rfl Try.ntmps244 (by kernel_rfl) (Nat.le_of_ble_eq_true rfl) ?_
  refine aw_sr rfl ?_
  simp only [go_sem, reduceIte, Nat.reduceEqDiff, Nat.reduceAdd, Nat.reduceMul, Nat.reduceSub, Nat.reduceLeDiff, Nat.reduceLT, reduceCtorEq]
  refine aw_seq fun K1 hK1 => ?_
  refine aw_sr rfl ?_
  simp only [go_sem, reduceIte, Nat.reduceEqDiff, Nat.reduceAdd, Nat.reduceMul, Nat.reduceSub, Nat.reduceLeDiff, Nat.reduceLT, reduceCtorEq]
  refine aw_range xs.length (S := Unit) (fun _ _ => [(0, .sl (xs.map eN) nl t), (1, .int .i64 s)]) (fun _ _ => G) (fun i _ => ∀ j (h : j < xs.length), j < i → decide (s = xs[j]) = false) () hx ?_ (fun _ _ h => h) (fun j _ h => absurd h (by omega)) rfl (fun _ _ => rfl) ?_ ?_ (by decide)
  · simp only [go_sem, reduceIte, Nat.reduceEqDiff, Nat.reduceAdd, Nat.reduceMul, Nat.reduceSub, Nat.reduceLeDiff, Nat.reduceLT, reduceCtorEq, Int.natCast_zero]
  · intro i _ hi he
    refine aw_sr rfl ?_
    simp only [go_sem, reduceIte, Nat.reduceEqDiff, Nat.reduceAdd, Nat.reduceMul, Nat.reduceSub, Nat.reduceLeDiff, Nat.reduceLT, reduceCtorEq]
    refine aw_sr rfl ?_
    simp only [go_sem, reduceIte, Nat.reduceEqDiff, Nat.reduceAdd, Nat.reduceMul, Nat.reduceSub, Nat.reduceLeDiff, Nat.reduceLT, reduceCtorEq, getD_map hi, eN]
    refine ⟨⟨by omega, by omega, wid_eN _⟩, ?_⟩
    refine aw_if rfl (fun h => ?_) (fun h => ?_)
    · refine aw_sr rfl ?_
      simp only [go_sem, reduceIte, Nat.reduceEqDiff, Nat.reduceAdd, Nat.reduceMul, Nat.reduceSub, Nat.reduceLeDiff, Nat.reduceLT, reduceCtorEq]
      refine aw_ret ⟨trivial, _, rfl, ?_, fun _ _ h => h⟩
      rw [idxF_at hi h (fun j hj => he j (by omega) hj)]
      exact Vle.refl _
    · refine aw_skip ⟨(), fun j hj hlt => ?_, ?_, fun _ _ h => h⟩
      · by_cases e : j = i
        · subst e; exact h
        · exact he j hj (by omega)
      simp only [go_sem, reduceIte, Nat.reduceEqDiff, Nat.reduceAdd, Nat.reduceMul, Nat.reduceSub, Nat.reduceLeDiff, Nat.reduceLT, reduceCtorEq]
  · intro _ he
    refine hK1 _ _ ?_
    refine aw_sr rfl ?_
    simp only [go_sem, reduceIte, Nat.reduceEqDiff, Nat.reduceAdd, Nat.reduceMul, Nat.reduceSub, Nat.reduceLeDiff, Nat.reduceLT, reduceCtorEq]
    refine aw_ret ⟨trivial, _, rfl, ?_, fun _ _ h => h⟩
    rw [idxF_none (fun j hj => he j hj hj)]
    exact Vle.refl _
open mk in
theorem q_ContainsN (xs : List Int) (nl : Bool) (t : Tag) (s : Int) (hx : (xs.length : Int) ≤ 9223372036854775807) :
    Quiet Try.prog 203 [.sl (xs.map eN) nl t, .int .i64 s] (.bool (xs.any fun x => decide (s = x))) := by
  refine Quiet.weak fun G => ?_
  refine acall_body (rs := [.tmp 4]) Try.func203 rfl rfl Try.ntmps203 (by kernel_rfl) (Nat.le_of_ble_eq_true rfl) ?_
  refine aw_sr rfl ?_
  simp only [go_sem, reduceIte, Nat.reduceEqDiff, Nat.reduceAdd, Nat.reduceMul, Nat.reduceSub, Nat.reduceLeDiff, Nat.reduceLT, reduceCtorEq]
  refine aw_sr rfl ?_
  simp only [go_sem, reduceIte, Nat.reduceEqDiff, Nat.reduceAdd, Nat.reduceMul, Nat.reduceSub, Nat.reduceLeDiff, Nat.reduceLT, reduceCtorEq]
  refine goA_q (q_IndexN xs nl t s hx) ?_
  simp only [go_sem, reduceIte, Nat.reduceEqDiff, Nat.reduceAdd, Nat.reduceMul, Nat.reduceSub, Nat.reduceLeDiff, Nat.reduceLT, reduceCtorEq]
  refine aw_ret ⟨trivial, _, rfl, ?_, sub_rfl⟩
  rw [← idxF_any]
  exact Vle.refl _
open mk in
theorem q_IndexB (b c : Nat) (xs : List Bool) (s : Bool) (hx : (xs.length : Int) ≤ 9223372036854775807) :
    QuietOn Try.prog [(b, .vars (xs.map V.bool))] 274 [.ms b 0 xs.length c, .bool s] (.int .i64 (idxF (fun x => s == x) xs)) := by
  refine QuietOn.weak fun G hG => ?_
  have h3 := hG _ _ (hget_self _ _ _)
  refine acall_body (rs := [.tmp 4]) Try.func274 rfl rfl Try.ntmps274 (by kernel_rfl) (Nat.le_of_ble_eq_true rfl) ?_
  refine aw_sr rfl ?_
  simp only [go_sem, reduceIte, Nat.reduceEqDiff, Nat.reduceAdd, Nat.reduceMul, Nat.reduceSub, Nat.reduceLeDiff, Nat.reduceLT, reduceCtorEq]
  refine aw_seq fun K1 hK1 => ?_
  refine aw_sr rfl ?_
  simp only [go_sem, reduceIte, Nat.reduceEqDiff, Nat.reduceAdd, Nat.reduceMul, Nat.reduceSub, Nat.reduceLeDiff, Nat.reduceLT, reduceCtorEq]
  refine aw_range xs.length (S := Unit) (fun _ _ => [(0, .ms b 0 xs.length c), (1, .bool s)]) (fun _ _ => G) (fun i _ => ∀ j (h : j < xs.length), j < i → (s == xs[j]) = false) () hx ?_ (fun _ _ h => h) (fun j _ h => absurd h (by omega)) rfl (fun _ _ => rfl) ?_ ?_ (by decide)
  · simp only [go_sem, reduceIte, Nat.reduceEqDiff, Nat.reduceAdd, Nat.reduceMul, Nat.reduceSub, Nat.reduceLeDiff, Nat.reduceLT, reduceCtorEq, Int.natCast_zero]
  · intro i _ hi he
    have hgi : (xs.map V.bool)[i]? = some (.bool xs[i]) := by rw [List.getElem?_map, List.getElem?_eq_getElem hi]; rfl
    refine aw_sr rfl ?_
    simp only [go_sem, reduceIte, Nat.reduceEqDiff, Nat.reduceAdd, Nat.reduceMul, Nat.reduceSub, Nat.reduceLeDiff, Nat.reduceLT, reduceCtorEq]
    refine aw_sr rfl ?_
    simp only [go_sem, reduceIte, Nat.reduceEqDiff, Nat.reduceAdd, Nat.reduceMul, Nat.reduceSub, Nat.reduceLeDiff, Nat.reduceLT, reduceCtorEq, h3, Nat.mul_one, Nat.zero_add, Int.toNat_natCast, hgi]
    refine ⟨⟨by omega, by omega⟩, ?_⟩
    refine aw_if rfl (fun h => ?_) (fun h => ?_)
    · refine aw_sr rfl ?_
      simp only [go_sem, reduceIte, Nat.reduceEqDiff, Nat.reduceAdd, Nat.reduceMul, Nat.reduceSub, Nat.reduceLeDiff, Nat.reduceLT, reduceCtorEq]
      refine aw_ret ⟨trivial, _, rfl, ?_, fun _ _ h => h⟩
      rw [idxF_at hi h (fun j hj => he j (by omega) hj)]
      exact Vle.refl _
    · refine aw_skip ⟨(), fun j hj hlt => ?_, ?_, fun _ _ h => h⟩
      · by_cases e : j = i
        · subst e; exact h
        · exact he j hj (by omega)
      simp only [go_sem, reduceIte, Nat.reduceEqDiff, Nat.reduceAdd, Nat.reduceMul, Nat.reduceSub, Nat.reduceLeDiff, Nat.reduceLT, reduceCtorEq]
  · intro _ he
    refine hK1 _ _ ?_
    refine aw_sr rfl ?_
    simp only [go_sem, reduceIte, Nat.reduceEqDiff, Nat.reduceAdd, Nat.reduceMul, Nat.reduceSub, Nat.reduceLeDiff, Nat.reduceLT, reduceCtorEq]
    refine aw_ret ⟨trivial, _, rfl, ?_, fun _ _ h => h⟩
    rw [idxF_none (fun j hj => he j hj hj)]
    exact Vle.refl _
open mk in
theorem q_ContainsB (b c : Nat) (xs : List Bool) (s : Bool) (hx : (xs.length : Int) ≤ 9223372036854775807) :
    QuietOn Try.prog [(b, .vars (xs.map V.bool))] 247 [.ms b 0 xs.length c, .bool s] (.bool (xs.any fun x => s == x)) := by
  refine QuietOn.weak fun G hG => ?_
  refine acall_body (rs := [.tmp 4]) Try.func247 rfl rfl Try.ntmps247 (by kernel_rfl) (Nat.le_of_ble_eq_true rfl) ?_
  refine aw_sr rfl ?_
  simp only [go_sem, reduceIte, Nat.reduceEqDiff, Nat.reduceAdd, Nat.reduceMul, Nat.reduceSub, Nat.reduceLeDiff, Nat.reduceLT, reduceCtorEq]
  refine aw_sr rfl ?_
  simp only [go_sem, reduceIte, Nat.reduceEqDiff, Nat.reduceAdd, Nat.reduceMul, Nat.reduceSub, Nat.reduceLeDiff, Nat.reduceLT, reduceCtorEq]
  refine goA_on (q_IndexB b c xs s hx) hG ?_
  simp only [go_sem, reduceIte, Nat.reduceEqDiff, Nat.reduceAdd, Nat.reduceMul, Nat.reduceSub, Nat.reduceLeDiff, Nat.reduceLT, reduceCtorEq]
  refine aw_ret ⟨trivial, _, rfl, ?_, sub_rfl⟩
  rw [← idxF_any]
  exact Vle.refl _
open mk in
theorem q_CloneN (l : List Int) (nl : Bool) (t : Tag) (hl : l.length ≤ 1048576) (hnl : nl = true → l = []) : Quiet Try.prog 117 [.sl (l.map eN) nl t] (.sl (l.map eN) nl .no) := by
  refine Quiet.weak fun G => ?_
  refine acall_body (rs := [.tmp 2]) Try.func117 rfl rfl Try.ntmps117 (by kernel_rfl) (Nat.le_of_ble_eq_true rfl) ?_
  refine aw_sr rfl ?_  -- r0
  simp only [go_sem, reduceIte, Nat.reduceEqDiff, Nat.reduceAdd, Nat.reduceMul, Nat.reduceSub, Nat.reduceLeDiff, Nat.reduceLT, reduceCtorEq]
  refine aw_seq fun K1 hK1 => ?_
  refine aw_sr rfl ?_  -- r1
  simp only [go_sem, reduceIte, Nat.reduceEqDiff, Nat.reduceAdd, Nat.reduceMul, Nat.reduceSub, Nat.reduceLeDiff, Nat.reduceLT, reduceCtorEq]
  refine aw_if rfl (fun h => ?_) (fun h => ?_)
  · refine aw_sr rfl ?_  -- r2
    simp only [go_sem, reduceIte, Nat.reduceEqDiff, Nat.reduceAdd, Nat.reduceMul, Nat.reduceSub, Nat.reduceLeDiff, Nat.reduceLT, reduceCtorEq]
    refine aw_ret ⟨trivial, _, rfl, ?_, sub_rfl⟩
    rw [hnl h, h]; exact Vle.untag
  refine aw_skip (hK1 _ _ ?_)
  refine aw_sr rfl ?_  -- r3
  simp only [go_sem, reduceIte, Nat.reduceEqDiff, Nat.reduceAdd, Nat.reduceMul, Nat.reduceSub, Nat.reduceLeDiff, Nat.reduceLT, reduceCtorEq]
  refine goP_rm (G := G) (Rm.start _ _ _) sub_rfl ?_ fun t1 H1 hr1 hs1 hg1 => ?_
  · exact ⟨rfl, rfl, by decide, by simp [wid], wid_eN _, sca_eN _, by simp; omega, by simp; omega⟩
  simp only [go_sem, reduceIte, Nat.reduceEqDiff, Nat.reduceAdd, Nat.reduceMul, Nat.reduceSub, Nat.reduceLeDiff, Nat.reduceLT, reduceCtorEq]
  refine aw_ret ⟨trivial, _, rfl, ?_, hs1⟩
  have h : nl = false := by simpa using h
  rw [h]
  exact Vle.untag
open mk in
theorem q_EqN (xs ys : List Int) (n1 n2 : Bool) (t1 t2 : Tag) (hx : (xs.length : Int) ≤ 9223372036854775807) : Quiet Try.prog 30 [.sl (xs.map eN) n1 t1, .sl (ys.map eN) n2 t2] (.bool (decide (xs = ys))) := by
  intro G
  refine acall_body (rs := [.tmp 4]) Try.func30 rfl rfl Try.ntmps30 (by kernel_rfl) (Nat.le_of_ble_eq_true rfl) ?_
  refine aw_sr rfl ?_
  simp only [go_sem, reduceIte, Nat.reduceEqDiff, Nat.reduceAdd, Nat.reduceMul, Nat.reduceSub, Nat.reduceLeDiff, Nat.reduceLT, reduceCtorEq]
  refine aw_seq fun K2 hK2 => ?_
  refine aw_sr rfl ?_
  simp only [go_sem, reduceIte, Nat.reduceEqDiff, Nat.reduceAdd, Nat.reduceMul, Nat.reduceSub, Nat.reduceLeDiff, Nat.reduceLT, reduceCtorEq]
  refine aw_if rfl (fun h => ?_) (fun h => ?_)
  · refine aw_sr rfl ?_
    simp only [go_sem, reduceIte, Nat.reduceEqDiff, Nat.reduceAdd, Nat.reduceMul, Nat.reduceSub, Nat.reduceLeDiff, Nat.reduceLT, reduceCtorEq]
    refine aw_ret ⟨trivial, _, rfl, ?_⟩
    simp only [decide_eq_true_eq, ne_eq, Int.natCast_inj] at h
    refine ⟨?_, rfl⟩
    rw [decide_eq_false (fun e => h (by rw [e]))]
    rfl
  · refine aw_skip (hK2 _ _ ?_)
    have hl : xs.length = ys.length := by simpa [Int.natCast_inj] using h
    refine aw_seq fun K3 hK3 => ?_
    refine aw_sr rfl ?_
    simp only [go_sem, reduceIte, Nat.reduceEqDiff, Nat.reduceAdd, Nat.reduceMul, Nat.reduceSub, Nat.reduceLeDiff, Nat.reduceLT, reduceCtorEq]
    refine aw_range xs.length (S := Unit) (fun _ _ => [(0, .sl (xs.map eN) n1 t1), (1, .sl (ys.map eN) n2 t2)]) (fun _ _ => G) (fun i _ => xs.take i = ys.take i) () hx ?_ (fun _ _ h => h) rfl rfl (fun _ _ => rfl) ?_ ?_ (by decide)
    · simp only [go_sem, reduceIte, Nat.reduceEqDiff, Nat.reduceAdd, Nat.reduceMul, Nat.reduceSub, Nat.reduceLeDiff, Nat.reduceLT, reduceCtorEq]
    · intro i _ hi he
      refine aw_sr rfl ?_
      simp only [go_sem, reduceIte, Nat.reduceEqDiff, Nat.reduceAdd, Nat.reduceMul, Nat.reduceSub, Nat.reduceLeDiff, Nat.reduceLT, reduceCtorEq]
      refine aw_srd [(0,true),(1,true),(2,true),(3,true),(4,true),(5,true),(6,true),(7,true),(8,true)] mixed rfl (by kernel_rfl) ?_
      simp only [go_sem, reduceIte, Nat.reduceEqDiff, Nat.reduceAdd, Nat.reduceMul, Nat.reduceSub, Nat.reduceLeDiff, Nat.reduceLT, reduceCtorEq, getD_map hi, getD_map (hl ▸ hi), eN]
      refine ⟨⟨by omega, by omega, wid_map (g := eN) (fun _ => rfl) _⟩, ⟨by omega, by omega, wid_map (g := eN) (fun _ => rfl) _⟩, ?_⟩
      refine aw_if rfl (fun h => ?_) (fun h => ?_)
      · refine aw_sr rfl ?_
        simp only [go_sem, reduceIte, Nat.reduceEqDiff, Nat.reduceAdd, Nat.reduceMul, Nat.reduceSub, Nat.reduceLeDiff, Nat.reduceLT, reduceCtorEq]
        refine aw_ret ⟨trivial, _, rfl, ?_⟩
        refine ⟨?_, rfl⟩
        have h : ¬ xs[i] = ys[i]'(hl ▸ hi) := by simpa using h
        rw [decide_eq_false (fun e => h (by subst e; rfl))]
        rfl
      · have h : xs[i] = ys[i]'(hl ▸ hi) := by simpa using h
        refine aw_skip ⟨(), ?_, ?_, fun _ _ h => h⟩
        · rw [List.take_succ_eq_append_getElem hi, List.take_succ_eq_append_getElem (hl ▸ hi), he, h]
        · simp only [go_sem, reduceIte, Nat.reduceEqDiff, Nat.reduceAdd, Nat.reduceMul, Nat.reduceSub, Nat.reduceLeDiff, Nat.reduceLT, reduceCtorEq]
    · intro _ he
      refine hK3 _ _ ?_
      refine aw_sr rfl ?_
      simp only [go_sem, reduceIte, Nat.reduceEqDiff, Nat.reduceAdd, Nat.reduceMul, Nat.reduceSub, Nat.reduceLeDiff, Nat.reduceLT, reduceCtorEq]
      refine aw_ret ⟨trivial, _, rfl, ?_⟩
      rw [List.take_length, hl, List.take_length] at he
      subst he
      rw [decide_eq_true rfl]
      exact ⟨rfl, rfl⟩
end Go.Proofs.Ytclmcpbanaojfaa

/- What a pattern binds, by both texts; values and patterns told apart. Conditions: sizes. -/
set_option linter.unusedSimpArgs false
set_option linter.unusedVariables false
namespace Go.Proofs.Ytclmcpbanaojfaa
open Go.Proofs.YtclmcpbanaojfaaV
open ar
open mk (idxF idxF_at idxF_none idxF_any)
set_option maxHeartbeats 4000000
set_option maxRecDepth 100000
namespace ar
abbrev aV (v : Val) : V := .agg (cV v)
abbrev aP (p : Pat) : V := .agg (cPat p)
def bndV : Option (List Val) → V
  | some l => .tup [.sl (l.map eVal) l.isEmpty .no, .bool true]
  | none => .tup [.sl [] true .no, .bool false]
theorem bnd_no {t : Tag} {es : List (List V)} (h : es = []) : Vle (oneOf [.sl es true t, .bool false]) (bndV none) := by
  subst h
  exact Vle.tupL (.cons Vle.untag (.cons (Vle.refl _) .nil))
theorem bnd_yes {t : Tag} : Vle (oneOf [.sl [] true t, .bool true]) (bndV (some [])) := Vle.tupL (.cons Vle.untag (.cons (Vle.refl _) .nil))
theorem bnd_if {t : Tag} {c : Prop} [Decidable c] {b : Bool} (h : b = decide c) : Vle (oneOf [.sl [] true t, .bool b]) (bndV (if c then some [] else none)) := by
  subst h
  by_cases hc : c
  · rw [if_pos hc, decide_eq_true hc]; exact bnd_yes
  · rw [if_neg hc, decide_eq_false hc]; exact bnd_no rfl
theorem isE_app {A : Type} (a b : List A) : (a ++ b).isEmpty = (a.isEmpty && b.isEmpty) := by cases a <;> simp
end ar
theorem q_IndexVal (H0 : Heap) (F : FuncId) (us ws : List V) (f : Val → Bool) (xs : List Val) (nl : Bool) (t : Tag) (hx : (xs.length : Int) ≤ 9223372036854775807)
    (hF : ∀ a ∈ xs, QuietOn Try.prog H0 F (us ++ [aV a] ++ ws) (.bool (f a))) :
    QuietOn Try.prog H0 189 [.sl (xs.map eVal) nl t, .func (.func F) us ws] (.int .i64 (idxF f xs)) := by
  intro G hG
  refine acall_body (rs := [.tmp 4]) Try.func189 rfl rfl Try.ntmps189 (by kernel_rfl) (Nat.le_of_ble_eq_true rfl) ?_
  refine aw_sr rfl ?_
  simp only [go_sem, reduceIte, Nat.reduceEqDiff, Nat.reduceAdd, Nat.reduceMul, Nat.reduceSub, Nat.reduceLeDiff, Nat.reduceLT, reduceCtorEq]
  refine aw_seq fun K1 hK1 => ?_
  refine aw_sr rfl ?_
  simp only [go_sem, reduceIte, Nat.reduceEqDiff, Nat.reduceAdd, Nat.reduceMul, Nat.reduceSub, Nat.reduceLeDiff, Nat.reduceLT, reduceCtorEq]
  refine aw_range xs.length (S := {H : Heap // H = G}) (fun _ _ => [(0, .sl (xs.map eVal) nl t), (1, .func (.func F) us ws)]) (fun _ s => s.1) (fun i _ => ∀ j (h : j < xs.length), j < i → f xs[j] = false) ⟨G, rfl⟩ hx ?_ (fun _ _ h => h) (fun j _ h => absurd h (by omega)) rfl (fun _ _ => rfl) ?_ ?_ (by decide)
  · simp only [go_sem, reduceIte, Nat.reduceEqDiff, Nat.reduceAdd, Nat.reduceMul, Nat.reduceSub, Nat.reduceLeDiff, Nat.reduceLT, reduceCtorEq, Int.natCast_zero]
  · intro i ⟨H, hH⟩ hi he
    subst hH
    refine aw_sr rfl ?_
    simp only [go_sem, reduceIte, Nat.reduceEqDiff, Nat.reduceAdd, Nat.reduceMul, Nat.reduceSub, Nat.reduceLeDiff, Nat.reduceLT, reduceCtorEq]
    refine aw_sr rfl ?_
    simp only [go_sem, reduceIte, Nat.reduceEqDiff, Nat.reduceAdd, Nat.reduceMul, Nat.reduceSub, Nat.reduceLeDiff, Nat.reduceLT, reduceCtorEq, getD_map hi, eC, cV]
    refine ⟨⟨by omega, by omega, wid_map (g := eVal) (fun _ => by simp [eC, cV]) _⟩, ?_⟩
    have hq := hF _ (List.getElem_mem hi)
    refine goA_on hq hG ?_
    simp only [go_sem, reduceIte, Nat.reduceEqDiff, Nat.reduceAdd, Nat.reduceMul, Nat.reduceSub, Nat.reduceLeDiff, Nat.reduceLT, reduceCtorEq]
    refine aw_if rfl (fun h => ?_) (fun h => ?_)
    · refine aw_sr rfl ?_
      simp only [go_sem, reduceIte, Nat.reduceEqDiff, Nat.reduceAdd, Nat.reduceMul, Nat.reduceSub, Nat.reduceLeDiff, Nat.reduceLT, reduceCtorEq]
      refine aw_ret ⟨trivial, _, rfl, ?_, rfl⟩
      rw [idxF_at hi h (fun j hj => he j (by omega) hj)]
      rfl
    · refine aw_skip ⟨⟨H, rfl⟩, fun j hj hlt => ?_, ?_, fun _ _ h => h⟩
      · by_cases e : j = i
        · subst e; exact h
        · exact he j hj (by omega)
      simp only [go_sem, reduceIte, Nat.reduceEqDiff, Nat.reduceAdd, Nat.reduceMul, Nat.reduceSub, Nat.reduceLeDiff, Nat.reduceLT, reduceCtorEq]
  · intro ⟨H, hH⟩ he
    subst hH
    refine hK1 _ _ ?_
    refine aw_sr rfl ?_
    simp only [go_sem, reduceIte, Nat.reduceEqDiff, Nat.reduceAdd, Nat.reduceMul, Nat.reduceSub, Nat.reduceLeDiff, Nat.reduceLT, reduceCtorEq]
    refine aw_ret ⟨trivial, _, rfl, ?_, rfl⟩
    rw [idxF_none (fun j hj => he j hj hj)]
    rfl
theorem q_ContainsVal (H0 : Heap) (F : FuncId) (us ws : List V) (f : Val → Bool) (xs : List Val) (nl : Bool) (t : Tag) (hx : (xs.length : Int) ≤ 9223372036854775807)
    (hF : ∀ a ∈ xs, QuietOn Try.prog H0 F (us ++ [aV a] ++ ws) (.bool (f a))) :
    QuietOn Try.prog H0 104 [.sl (xs.map eVal) nl t, .func (.func F) us ws] (.bool (xs.any f)) := by
  intro G hG
  refine acall_body (rs := [.tmp 4]) Try.func104 rfl rfl Try.ntmps104 (by kernel_rfl) (Nat.le_of_ble_eq_true rfl) ?_
  refine aw_sr rfl ?_
  simp only [go_sem, reduceIte, Nat.reduceEqDiff, Nat.reduceAdd, Nat.reduceMul, Nat.reduceSub, Nat.reduceLeDiff, Nat.reduceLT, reduceCtorEq]
  refine aw_sr rfl ?_
  simp only [go_sem, reduceIte, Nat.reduceEqDiff, Nat.reduceAdd, Nat.reduceMul, Nat.reduceSub, Nat.reduceLeDiff, Nat.reduceLT, reduceCtorEq]
  refine goA_on (q_IndexVal H0 F us ws f xs nl t hx hF) hG ?_
  simp only [go_sem, reduceIte, Nat.reduceEqDiff, Nat.reduceAdd, Nat.reduceMul, Nat.reduceSub, Nat.reduceLeDiff, Nat.reduceLT, reduceCtorEq]
  refine aw_ret ⟨trivial, _, rfl, ?_, rfl⟩
  rw [← idxF_any]
  rfl
theorem q_IndexPat (H0 : Heap) (F : FuncId) (us ws : List V) (f : Pat → Bool) (xs : List Pat) (nl : Bool) (t : Tag) (hx : (xs.length : Int) ≤ 9223372036854775807)
    (hF : ∀ a ∈ xs, QuietOn Try.prog H0 F (us ++ [aP a] ++ ws) (.bool (f a))) :
    QuietOn Try.prog H0 106 [.sl (xs.map ePat) nl t, .func (.func F) us ws] (.int .i64 (idxF f xs)) := by
  intro G hG
  refine acall_body (rs := [.tmp 4]) Try.func106 rfl rfl Try.ntmps106 (by kernel_rfl) (Nat.le_of_ble_eq_true rfl) ?_
  refine aw_sr rfl ?_
  simp only [go_sem, reduceIte, Nat.reduceEqDiff, Nat.reduceAdd, Nat.reduceMul, Nat.reduceSub, Nat.reduceLeDiff, Nat.reduceLT, reduceCtorEq]
  refine aw_seq fun K1 hK1 => ?_
  refine aw_sr rfl ?_
  simp only [go_sem, reduceIte, Nat.reduceEqDiff, Nat.reduceAdd, Nat.reduceMul, Nat.reduceSub, Nat.reduceLeDiff, Nat.reduceLT, reduceCtorEq]
  refine aw_range xs.length (S := {H : Heap // H = G}) (fun _ _ => [(0, .sl (xs.map ePat) nl t), (1, .func (.func F) us ws)]) (fun _ s => s.1) (fun i _ => ∀ j (h : j < xs.length), j < i → f xs[j] = false) ⟨G, rfl⟩ hx ?_ (fun _ _ h => h) (fun j _ h => absurd h (by omega)) rfl (fun _ _ => rfl) ?_ ?_ (by decide)
  · simp only [go_sem, reduceIte, Nat.reduceEqDiff, Nat.reduceAdd, Nat.reduceMul, Nat.reduceSub, Nat.reduceLeDiff, Nat.reduceLT, reduceCtorEq, Int.natCast_zero]
  · intro i ⟨H, hH⟩ hi he
    subst hH
    refine aw_sr rfl ?_
    simp only [go_sem, reduceIte, Nat.reduceEqDiff, Nat.reduceAdd, Nat.reduceMul, Nat.reduceSub, Nat.reduceLeDiff, Nat.reduceLT, reduceCtorEq]
    refine aw_sr rfl ?_
    simp only [go_sem, reduceIte, Nat.reduceEqDiff, Nat.reduceAdd, Nat.reduceMul, Nat.reduceSub, Nat.reduceLeDiff, Nat.reduceLT, reduceCtorEq, getD_map hi, ePat_eq, cPat]
    refine ⟨⟨by omega, by omega, wid_map (g := ePat) (fun _ => by simp [ePat_eq, cPat]) _⟩, ?_⟩
    have hq := hF _ (List.getElem_mem hi)
    refine goA_on hq hG ?_
    simp only [go_sem, reduceIte, Nat.reduceEqDiff, Nat.reduceAdd, Nat.reduceMul, Nat.reduceSub, Nat.reduceLeDiff, Nat.reduceLT, reduceCtorEq]
    refine aw_if rfl (fun h => ?_) (fun h => ?_)
    · refine aw_sr rfl ?_
      simp only [go_sem, reduceIte, Nat.reduceEqDiff, Nat.reduceAdd, Nat.reduceMul, Nat.reduceSub, Nat.reduceLeDiff, Nat.reduceLT, reduceCtorEq]
      refine aw_ret ⟨trivial, _, rfl, ?_, rfl⟩
      rw [idxF_at hi h (fun j hj => he j (by omega) hj)]
      rfl
    · refine aw_skip ⟨⟨H, rfl⟩, fun j hj hlt => ?_, ?_, fun _ _ h => h⟩
      · by_cases e : j = i
        · subst e; exact h
        · exact he j hj (by omega)
      simp only [go_sem, reduceIte, Nat.reduceEqDiff, Nat.reduceAdd, Nat.reduceMul, Nat.reduceSub, Nat.reduceLeDiff, Nat.reduceLT, reduceCtorEq]
  · intro ⟨H, hH⟩ he
    subst hH
    refine hK1 _ _ ?_
    refine aw_sr rfl ?_
    simp only [go_sem, reduceIte, Nat.reduceEqDiff, Nat.reduceAdd, Nat.reduceMul, Nat.reduceSub, Nat.reduceLeDiff, Nat.reduceLT, reduceCtorEq]
    refine aw_ret ⟨trivial, _, rfl, ?_, rfl⟩
    rw [idxF_none (fun j hj => he j hj hj)]
    rfl
theorem q_ContainsPat (H0 : Heap) (F : FuncId) (us ws : List V) (f : Pat → Bool) (xs : List Pat) (nl : Bool) (t : Tag) (hx : (xs.length : Int) ≤ 9223372036854775807)
    (hF : ∀ a ∈ xs, QuietOn Try.prog H0 F (us ++ [aP a] ++ ws) (.bool (f a))) :
    QuietOn Try.prog H0 51 [.sl (xs.map ePat) nl t, .func (.func F) us ws] (.bool (xs.any f)) := by
  intro G hG
  refine acall_body (rs := [.tmp 4]) Try.func51 rfl rfl Try.ntmps51 (by kernel_rfl) (Nat.le_of_ble_eq_true rfl) ?_
  refine aw_sr rfl ?_
  simp only [go_sem, reduceIte, Nat.reduceEqDiff, Nat.reduceAdd, Nat.reduceMul, Nat.reduceSub, Nat.reduceLeDiff, Nat.reduceLT, reduceCtorEq]
  refine aw_sr rfl ?_
  simp only [go_sem, reduceIte, Nat.reduceEqDiff, Nat.reduceAdd, Nat.reduceMul, Nat.reduceSub, Nat.reduceLeDiff, Nat.reduceLT, reduceCtorEq]
  refine goA_on (q_IndexPat H0 F us ws f xs nl t hx hF) hG ?_
  simp only [go_sem, reduceIte, Nat.reduceEqDiff, Nat.reduceAdd, Nat.reduceMul, Nat.reduceSub, Nat.reduceLeDiff, Nat.reduceLT, reduceCtorEq]
  refine aw_ret ⟨trivial, _, rfl, ?_, rfl⟩
  rw [← idxF_any]
  rfl
theorem q_Bind : ∀ (n : Nat) (p : Pat) (v : Val), p.sz ≤ n → OkPat p → p.sz ≤ bulk → Quiet Try.prog 107 [.agg (cPat p), .agg (cV v)] (bndV (fitsF p v)) := by
  intro n
  induction n with
  | zero => intro p v h; have := p.sz_eq; omega
  | succ n ih =>
  intro p v hn hp hsz
  have hpl : p.args.length ≤ 1048576 := hp.len
  have hsz' : p.sz ≤ 1048576 := hsz
  have hF := fits_eq p v
  refine Quiet.weak fun G => ?_
  refine acall_body (rs := [.tmp 4, .tmp 5]) Try.func107 rfl rfl Try.ntmps107 (by kernel_rfl) (Nat.le_of_ble_eq_true rfl) ?_
  refine aw_sr rfl ?_  -- r0 @arms.go:142
  simp only [go_sem, reduceIte, Nat.reduceEqDiff, Nat.reduceAdd, Nat.reduceMul, Nat.reduceSub, Nat.reduceLeDiff, Nat.reduceLT, reduceCtorEq]
  intro b2 hb2 b3 hb3
  refine aw_box2 hb2 hb3 fun B1 hs1 h2 h3 _ _ => ?_
  have hsB := hs1
  refine aw_seq fun K2 hK2 => ?_
  refine aw_sr rfl ?_  -- r1 @arms.go:143
  simp only [go_sem, reduceIte, Nat.reduceEqDiff, Nat.reduceAdd, Nat.reduceMul, Nat.reduceSub, Nat.reduceLeDiff, Nat.reduceLT, reduceCtorEq, h2]
  refine aw_block ?_  -- 0
  refine aw_chain rfl rfl rfl rfl rfl ?_  -- t12 is one of [1]
  refine aw_if rfl (fun h => ?_) (fun h => ?_)
  · have hk : p.kind = 1 := by simpa using h
    rw [if_pos hk] at hF
    refine aw_sr rfl ?_  -- r3 @arms.go:145
    simp only [go_sem, reduceIte, Nat.reduceEqDiff, Nat.reduceAdd, Nat.reduceMul, Nat.reduceSub, Nat.reduceLeDiff, Nat.reduceLT, reduceCtorEq]
    refine aw_ret ⟨trivial, _, rfl, ?_, hsB⟩
    rw [hF]; exact bnd_yes
  have k1 : ¬ p.kind = 1 := by simpa using h
  rw [if_neg k1] at hF
  refine aw_chain rfl rfl rfl rfl rfl ?_  -- t12 is one of [2]
  refine aw_if rfl (fun h => ?_) (fun h => ?_)
  · have hk : p.kind = 2 := by simpa using h
    rw [if_pos hk] at hF
    refine aw_sr rfl ?_  -- r5 @arms.go:147
    simp only [go_sem, reduceIte, Nat.reduceEqDiff, Nat.reduceAdd, Nat.reduceMul, Nat.reduceSub, Nat.reduceLeDiff, Nat.reduceLT, reduceCtorEq, h3]
    refine aw_ret ⟨trivial, _, rfl, ?_, hsB⟩
    rw [hF]
    simp only [bndV, List.map_cons, List.map_nil, eC, List.isEmpty_cons]
    exact Vle.tupL (.cons Vle.untag (.cons (Vle.refl _) .nil))
  have k2 : ¬ p.kind = 2 := by simpa using h
  rw [if_neg k2] at hF
  refine aw_chain rfl rfl rfl rfl rfl ?_  -- t12 is one of [3]
  refine aw_if rfl (fun h => ?_) (fun h => ?_)
  · have hk : p.kind = 3 := by simpa using h
    rw [if_pos hk] at hF
    refine aw_srd [(0,true),(1,true),(2,true),(3,true),(4,true),(5,true),(6,true),(7,true),(8,true),(9,true),(10,true),(11,true)] mixed rfl (by kernel_rfl) ?_  -- r7 @arms.go:149
    simp only [go_sem, reduceIte, Nat.reduceEqDiff, Nat.reduceAdd, Nat.reduceMul, Nat.reduceSub, Nat.reduceLeDiff, Nat.reduceLT, reduceCtorEq, h2, h3]
    refine aw_ret ⟨trivial, _, rfl, ?_, hsB⟩
    rw [hF]
    exact bnd_if (by by_cases c1 : v.kind = 2 <;> by_cases c2 : v.num = p.num <;> simp [c1, c2])
  have k3 : ¬ p.kind = 3 := by simpa using h
  rw [if_neg k3] at hF
  refine aw_chain rfl rfl rfl rfl rfl ?_  -- t12 is one of [4]
  refine aw_if rfl (fun h => ?_) (fun h => ?_)
  · have hk : p.kind = 4 := by simpa using h
    rw [if_pos hk] at hF
    refine aw_srd [(0,true),(1,true),(2,true),(3,true),(4,true),(5,true),(6,true),(7,true),(8,true),(9,true),(10,true),(11,true)] mixed rfl (by kernel_rfl) ?_  -- r9 @arms.go:151
    simp only [go_sem, reduceIte, Nat.reduceEqDiff, Nat.reduceAdd, Nat.reduceMul, Nat.reduceSub, Nat.reduceLeDiff, Nat.reduceLT, reduceCtorEq, h2, h3]
    refine aw_ret ⟨trivial, _, rfl, ?_, hsB⟩
    rw [hF]
    exact bnd_if (by by_cases c1 : v.kind = 3 <;> by_cases c2 : v.num = p.num <;> simp [c1, c2])
  have k4 : ¬ p.kind = 4 := by simpa using h
  rw [if_neg k4] at hF
  refine aw_chain rfl rfl rfl rfl rfl ?_  -- t12 is one of [5]
  refine aw_if rfl (fun h => ?_) (fun h => ?_)
  · have hk : p.kind = 5 := by simpa using h
    rw [if_pos hk] at hF
    refine aw_srd [(0,true),(1,true),(2,true),(3,true),(4,true),(5,true),(6,true),(7,true),(8,true),(9,true),(10,true),(11,true)] mixed rfl (by kernel_rfl) ?_  -- r11 @arms.go:153
    simp only [go_sem, reduceIte, Nat.reduceEqDiff, Nat.reduceAdd, Nat.reduceMul, Nat.reduceSub, Nat.reduceLeDiff, Nat.reduceLT, reduceCtorEq, h2, h3]
    refine aw_ret ⟨trivial, _, rfl, ?_, hsB⟩
    rw [hF]
    exact bnd_if (by by_cases c1 : v.kind = 4 <;> by_cases c2 : v.text = p.text <;> simp [c1, c2])
  have k5 : ¬ p.kind = 5 := by simpa using h
  rw [if_neg k5] at hF
  refine aw_chain rfl rfl rfl rfl rfl ?_  -- t12 is one of [6]
  refine aw_if rfl (fun h => ?_) (fun h => ?_)
  · have hk : p.kind = 6 := by simpa using h
    rw [if_pos hk] at hF
    refine aw_seq fun K3 hK3 => ?_
    refine aw_sr rfl ?_  -- r13 @arms.go:155
    simp only [go_sem, reduceIte, Nat.reduceEqDiff, Nat.reduceAdd, Nat.reduceMul, Nat.reduceSub, Nat.reduceLeDiff, Nat.reduceLT, reduceCtorEq, h2, h3, List.length_map]
    by_cases hc : v.kind = 5 ∧ v.text = p.text ∧ v.args.length = p.args.length
    · rw [if_pos hc] at hF
      refine aw_if rfl (fun h => ?_) (fun h => ?_)
      · exfalso; revert h; simp [hc.1, hc.2.1, hc.2.2]
      refine aw_skip (hK3 _ _ ?_)
      refine aw_sr rfl ?_  -- r15 @arms.go:158
      simp only [go_sem, reduceIte, Nat.reduceEqDiff, Nat.reduceAdd, Nat.reduceMul, Nat.reduceSub, Nat.reduceLeDiff, Nat.reduceLT, reduceCtorEq]
      refine aw_seq fun K4 hK4 => ?_
      refine aw_sr rfl ?_  -- r16 @arms.go:159
      simp only [go_sem, reduceIte, Nat.reduceEqDiff, Nat.reduceAdd, Nat.reduceMul, Nat.reduceSub, Nat.reduceLeDiff, Nat.reduceLT, reduceCtorEq, h2]
      refine aw_range p.args.length (S := List Val × Tag × Heap) (fun i s => [(3, .ptr b3 0), (6, .sl (s.1.map eVal) s.1.isEmpty s.2.1), (77, .sl (p.args.map ePat) p.nl .no)]) (fun _ s => s.2.2) (fun i s => Rm G s.2.2 4 s.2.1 ∧ Sub G s.2.2 ∧ hget s.2.2 b3 = some (.vars (cV v)) ∧ fitsFs (p.args.take i) (v.args.take i) = some s.1) ([], .full, B1) (by omega) ?_ (fun _ _ h => h) ⟨Rm.start _ _ _, hsB, h3, by simp [fitsFs]⟩ rfl (fun _ _ => rfl) ?_ ?_ (by decide)
      · simp only [go_sem, reduceIte, Nat.reduceEqDiff, Nat.reduceAdd, Nat.reduceMul, Nat.reduceSub, Nat.reduceLeDiff, Nat.reduceLT, reduceCtorEq, Int.natCast_zero, List.map_nil, List.isEmpty_nil]
      · intro i ⟨out, t, H⟩ hi ⟨hr, hs, j3, ho⟩
        simp only at hr hs j3 ho ⊢
        have hi2 : i < v.args.length := by omega
        have hmem : p.args[i] ∈ p.args := List.getElem_mem hi
        have hq := ih p.args[i] v.args[i] (by have := Pat.sz_args hmem; omega) (hp.arg hmem) (Nat.le_trans (Nat.le_of_lt (Pat.sz_args hmem)) hsz)
        have hnx := fitss_take hi hi2
        have hno := fitss_none hi hi2
        rw [ho] at hnx
        have hfl := fun l h => fitss_len (p.args.take (i + 1)) (v.args.take (i + 1)) l h
        have hps : pszs (p.args.take (i + 1)) ≤ pszs p.args := by
          have h1 := pszs_append (p.args.take (i + 1)) (p.args.drop (i + 1))
          rw [List.take_append_drop] at h1; omega
        have hp1 := p.sz_eq
        refine aw_sr rfl ?_  -- r18 @arms.go:159
        simp only [go_sem, reduceIte, Nat.reduceEqDiff, Nat.reduceAdd, Nat.reduceMul, Nat.reduceSub, Nat.reduceLeDiff, Nat.reduceLT, reduceCtorEq, getD_map hi, ePat_eq]
        refine ⟨⟨by omega, by omega, wid_ePat _⟩, ?_⟩
        intro b8 hb8
        refine aw_box1 hb8 fun B2 hs2 h8 => ?_
        replace hr := hr.sub hs2
        replace hs := sub_trans hs hs2
        replace j3 := hs2 _ _ j3
        refine aw_srd [(0,true),(1,true),(2,true),(3,true),(4,true),(5,true),(6,true),(7,true),(8,true),(9,true),(10,true),(11,true)] mixed rfl (by kernel_rfl) ?_  -- r19 @arms.go:160
        simp only [go_sem, reduceIte, Nat.reduceEqDiff, Nat.reduceAdd, Nat.reduceMul, Nat.reduceSub, Nat.reduceLeDiff, Nat.reduceLT, reduceCtorEq, j3, h8, getD_map hi2, eC]
        refine ⟨⟨by omega, by omega, wid_eVal _⟩, ?_⟩
        refine goQ_by hq ?_
        cases hf : fitsF p.args[i] v.args[i] with
        | none =>
          rw [hno hf] at hF
          simp only [go_sem, reduceIte, Nat.reduceEqDiff, Nat.reduceAdd, Nat.reduceMul, Nat.reduceSub, Nat.reduceLeDiff, Nat.reduceLT, reduceCtorEq, bndV]
          refine aw_seq fun K5 hK5 => ?_
          refine aw_sr rfl ?_  -- r20 @arms.go:161
          simp only [go_sem, reduceIte, Nat.reduceEqDiff, Nat.reduceAdd, Nat.reduceMul, Nat.reduceSub, Nat.reduceLeDiff, Nat.reduceLT, reduceCtorEq]
          refine aw_if rfl (fun h => ?_) (fun h => by cases h)
          refine aw_sr rfl ?_  -- r21 @arms.go:162
          simp only [go_sem, reduceIte, Nat.reduceEqDiff, Nat.reduceAdd, Nat.reduceMul, Nat.reduceSub, Nat.reduceLeDiff, Nat.reduceLT, reduceCtorEq]
          refine aw_ret ⟨trivial, _, rfl, ?_, hs⟩
          rw [hF]; exact bnd_no rfl
        | some l =>
          rw [hf] at hnx
          simp only at hnx
          have hl := hfl _ hnx
          rw [List.length_append] at hl
          simp only [go_sem, reduceIte, Nat.reduceEqDiff, Nat.reduceAdd, Nat.reduceMul, Nat.reduceSub, Nat.reduceLeDiff, Nat.reduceLT, reduceCtorEq, bndV]
          refine aw_seq fun K5 hK5 => ?_
          refine aw_sr rfl ?_  -- r20 @arms.go:161
          simp only [go_sem, reduceIte, Nat.reduceEqDiff, Nat.reduceAdd, Nat.reduceMul, Nat.reduceSub, Nat.reduceLeDiff, Nat.reduceLT, reduceCtorEq]
          refine aw_if rfl (fun h => by cases h) (fun h => ?_)
          refine aw_skip (hK5 _ _ ?_)
          refine aw_rg rfl ?_  -- r22 @arms.go:164
          simp only [go_sem, reduceIte, Nat.reduceEqDiff, Nat.reduceAdd, Nat.reduceMul, Nat.reduceSub, Nat.reduceLeDiff, Nat.reduceLT, reduceCtorEq]
          refine goP_rm (G := G) hr hs ⟨rfl, rfl, by decide, wid_eVal _, wid_eVal _, sca_eVal _, by simp only [List.length_map]; omega, by simp only [List.length_map]; omega⟩ fun t6 H6 hr6 hs6 hg6 => ?_
          simp only [go_sem, reduceIte, Nat.reduceEqDiff, Nat.reduceAdd, Nat.reduceMul, Nat.reduceSub, Nat.reduceLeDiff, Nat.reduceLT, reduceCtorEq]
          refine ⟨(out ++ l, t6, H6), ⟨hr6, hs6, hg6.vars j3, hnx⟩, ?_, sub_rfl⟩
          rw [List.map_append, isE_app, ← List.isEmpty_map (f := eVal) (l := l)]
          exact ⟨rfl, rfl, rfl, rfl, rfl⟩
      intro ⟨out, t, H⟩ ⟨hr, hs, j3, ho⟩
      simp only at hr hs j3 ho ⊢
      rw [List.take_length, ← hc.2.2, List.take_length] at ho
      refine hK4 _ _ ?_
      refine aw_sr rfl ?_  -- r24 @arms.go:166
      simp only [go_sem, reduceIte, Nat.reduceEqDiff, Nat.reduceAdd, Nat.reduceMul, Nat.reduceSub, Nat.reduceLeDiff, Nat.reduceLT, reduceCtorEq]
      refine aw_ret ⟨trivial, _, rfl, ?_, hs⟩
      rw [hF, ho]
      exact Vle.tupL (.cons Vle.untag (.cons (Vle.refl _) .nil))
    · rw [if_neg hc] at hF
      refine aw_if rfl (fun h => ?_) (fun h => ?_)
      · refine aw_sr rfl ?_  -- r14 @arms.go:156
        simp only [go_sem, reduceIte, Nat.reduceEqDiff, Nat.reduceAdd, Nat.reduceMul, Nat.reduceSub, Nat.reduceLeDiff, Nat.reduceLT, reduceCtorEq]
        refine aw_ret ⟨trivial, _, rfl, ?_, hsB⟩
        rw [hF]; exact bnd_no rfl
      · exfalso
        apply hc
        revert h
        by_cases c1 : v.kind = 5 <;> by_cases c2 : v.text = p.text <;> by_cases c3 : v.args.length = p.args.length <;> simp [c1, c2, c3, Int.natCast_inj]
  have k6 : ¬ p.kind = 6 := by simpa using h
  rw [if_neg k6] at hF
  refine aw_skip (hK2 _ _ ?_)
  refine aw_sr rfl ?_  -- r25 @arms.go:168
  simp only [go_sem, reduceIte, Nat.reduceEqDiff, Nat.reduceAdd, Nat.reduceMul, Nat.reduceSub, Nat.reduceLeDiff, Nat.reduceLT, reduceCtorEq]
  refine aw_ret ⟨trivial, _, rfl, ?_, hsB⟩
  rw [hF]; exact bnd_no rfl
end Go.Proofs.Ytclmcpbanaojfaa

/- What a pattern binds: the reference's; the first pattern that fits; questions counted; values and patterns told apart. Conditions: sizes. -/
set_option linter.unusedSimpArgs false
set_option linter.unusedVariables false
namespace Go.Proofs.Ytclmcpbanaojfaa
open Go.Proofs.YtclmcpbanaojfaaV
open ar
set_option maxHeartbeats 4000000
set_option maxRecDepth 100000
namespace ar
theorem pszs_take_le (ps : List Pat) (i : Nat) : pszs (ps.take i) ≤ pszs ps := by
  have h1 := pszs_append (ps.take i) (ps.drop i)
  rw [List.take_append_drop] at h1; omega
theorem pszs_take_succ {ps : List Pat} {i : Nat} (h : i < ps.length) : pszs (ps.take (i + 1)) = pszs (ps.take i) + ps[i].sz := by
  rw [List.take_succ_eq_append_getElem h, pszs_append]; simp [pszs]
theorem questFs_snoc (q : Pat) : ∀ ps : List Pat, questFs (ps ++ [q]) = questFs ps + questF q
  | [] => by simp [questFs]
  | p :: ps => by rw [List.cons_append, questFs, questFs, questFs_snoc q ps]; omega
theorem questFs_take {ps : List Pat} {i : Nat} (h : i < ps.length) : questFs (ps.take (i + 1)) = questFs (ps.take i) + questF ps[i] := by
  rw [List.take_succ_eq_append_getElem h, questFs_snoc]
theorem quest_eq (p : Pat) : questF p = if p.kind = 3 ∨ p.kind = 4 ∨ p.kind = 5 then 1 else if p.kind = 6 then 1 + questFs p.args else 0 := by cases p; rw [questF]; rfl
mutual
theorem quest_le : ∀ p : Pat, questF p ≤ p.sz
  | .mk k n t ar nl => by
    rw [questF, Pat.sz]
    have := quests_le ar
    split
    · omega
    split <;> omega
theorem quests_le : ∀ ps : List Pat, questFs ps ≤ pszs ps
  | [] => Nat.le_refl _
  | q :: qs => by rw [questFs, pszs]; have := quest_le q; have := quests_le qs; omega
end
end ar
theorem q_Fits : ∀ (n : Nat) (p : Pat) (v : Val), p.sz ≤ n → OkPat p → p.sz ≤ bulk → Quiet Try.prog 56 [.agg (cPat p), .agg (cV v)] (bndV (fitsF p v)) := by
  intro n
  induction n with
  | zero => intro p v h; have := p.sz_eq; omega
  | succ n ih =>
  intro p v hn hp hsz
  have hpl : p.args.length ≤ 1048576 := hp.len
  have hsz' : p.sz ≤ 1048576 := hsz
  have hF := fits_eq p v
  refine Quiet.weak fun G => ?_
  refine acall_body (rs := [.tmp 4, .tmp 5]) Try.func56 rfl rfl Try.ntmps56 (by kernel_rfl) (Nat.le_of_ble_eq_true rfl) ?_
  refine aw_sr rfl ?_  -- r0 @low.go:250
  simp only [go_sem, reduceIte, Nat.reduceEqDiff, Nat.reduceAdd, Nat.reduceMul, Nat.reduceSub, Nat.reduceLeDiff, Nat.reduceLT, reduceCtorEq]
  intro b2 hb2 b3 hb3
  refine aw_box2 hb2 hb3 fun B1 hs1 h2 h3 _ _ => ?_
  have hsB := hs1
  refine aw_seq fun K6 hK6 => ?_
  refine aw_block ?_  -- 0
  refine aw_sr rfl ?_  -- r1 @low.go:252
  simp only [go_sem, reduceIte, Nat.reduceEqDiff, Nat.reduceAdd, Nat.reduceMul, Nat.reduceSub, Nat.reduceLeDiff, Nat.reduceLT, reduceCtorEq, h2]
  refine aw_if rfl (fun h => ?_) (fun h => ?_)
  · have hk : p.kind = 1 := by simpa using h
    rw [if_pos hk] at hF
    refine aw_sr rfl ?_  -- r2 @low.go:253
    simp only [go_sem, reduceIte, Nat.reduceEqDiff, Nat.reduceAdd, Nat.reduceMul, Nat.reduceSub, Nat.reduceLeDiff, Nat.reduceLT, reduceCtorEq]
    refine aw_ret ⟨trivial, _, rfl, ?_, hsB⟩
    rw [hF]; exact bnd_yes
  have k1 : ¬ p.kind = 1 := by simpa using h
  rw [if_neg k1] at hF
  refine aw_sr rfl ?_  -- r3 @low.go:254
  simp only [go_sem, reduceIte, Nat.reduceEqDiff, Nat.reduceAdd, Nat.reduceMul, Nat.reduceSub, Nat.reduceLeDiff, Nat.reduceLT, reduceCtorEq, h2]
  refine aw_if rfl (fun h => ?_) (fun h => ?_)
  · have hk : p.kind = 2 := by simpa using h
    rw [if_pos hk] at hF
    refine aw_sr rfl ?_  -- r4 @low.go:255
    simp only [go_sem, reduceIte, Nat.reduceEqDiff, Nat.reduceAdd, Nat.reduceMul, Nat.reduceSub, Nat.reduceLeDiff, Nat.reduceLT, reduceCtorEq, h3]
    refine aw_ret ⟨trivial, _, rfl, ?_, hsB⟩
    rw [hF]
    simp only [bndV, List.map_cons, List.map_nil, eC, List.isEmpty_cons]
    exact Vle.tupL (.cons Vle.untag (.cons (Vle.refl _) .nil))
  have k2 : ¬ p.kind = 2 := by simpa using h
  rw [if_neg k2] at hF
  refine aw_mid (fun f' G' => ∃ c : Bool, (c = true ↔ (p.kind = 3 ∧ v.kind = 2 ∨ p.kind = 4 ∧ v.kind = 3)) ∧ FSub [(21, .bool c), (2, .ptr b2 0), (3, .ptr b3 0)] f' ∧ G' = B1) ?_ ?_
  · -- 2 ways
    refine aw_sr rfl ?_  -- r5 @low.go:256
    simp only [go_sem, reduceIte, Nat.reduceEqDiff, Nat.reduceAdd, Nat.reduceMul, Nat.reduceSub, Nat.reduceLeDiff, Nat.reduceLT, reduceCtorEq, h2, h3]
    refine aw_if rfl (fun h => ?_) (fun h => ?_)
    · have hh : p.kind = 3 ∧ v.kind = 2 := by simpa using h
      refine aw_skip ⟨_, ?_, (by repeat' first | exact rfl | exact trivial | refine And.intro ?_ ?_), rfl⟩
      rw [h]
      exact ⟨fun _ => .inl hh, fun _ => rfl⟩
    · have hh : ¬ (p.kind = 3 ∧ v.kind = 2) := by simpa using h
      refine aw_rg rfl ?_  -- r6 @low.go:256
      simp only [go_sem, reduceIte, Nat.reduceEqDiff, Nat.reduceAdd, Nat.reduceMul, Nat.reduceSub, Nat.reduceLeDiff, Nat.reduceLT, reduceCtorEq, h2, h3]
      refine ⟨_, ?_, (by repeat' first | exact rfl | exact trivial | refine And.intro ?_ ?_), rfl⟩
      by_cases c1 : p.kind = 4 <;> by_cases c2 : v.kind = 3 <;> simp [c1, c2] <;> omega
  intro f' G' ⟨c, hcc, hf, hg⟩
  rw [hg]
  refine AW.of_fsub hf ?_
  clear hf hg
  refine aw_if rfl (fun h => ?_) (fun h => ?_)
  · have hh := hcc.1 h
    have hF2 : fitsF p v = if v.num = p.num then some [] else none := by
      rcases hh with ⟨a, b⟩ | ⟨a, b⟩
      · rw [hF, if_pos a]; simp [b]
      · rw [hF, if_neg (by omega), if_pos a]; simp [b]
    refine aw_srd [(0,true),(1,true),(2,true),(3,true),(4,true),(5,true),(6,true)] mixed rfl (by kernel_rfl) ?_  -- r7 @low.go:257
    simp only [go_sem, reduceIte, Nat.reduceEqDiff, Nat.reduceAdd, Nat.reduceMul, Nat.reduceSub, Nat.reduceLeDiff, Nat.reduceLT, reduceCtorEq, h2, h3]
    refine aw_ret ⟨trivial, _, rfl, ?_, hsB⟩
    rw [hF2]
    exact bnd_if (by by_cases c : p.num = v.num <;> simp [c, eq_comm])
  have hh : ¬ (p.kind = 3 ∧ v.kind = 2 ∨ p.kind = 4 ∧ v.kind = 3) := fun q => by rw [hcc.2 q] at h; cases h
  have hF3 : fitsF p v = if p.kind = 5 ∧ v.kind = 4 then (if v.text = p.text then some [] else none) else if p.kind = 6 ∧ v.kind = 5 ∧ v.text = p.text ∧ v.args.length = p.args.length then fitsFs p.args v.args else none := by
    rw [hF]
    by_cases c3 : p.kind = 3
    · have : ¬ v.kind = 2 := fun q => hh (.inl ⟨c3, q⟩)
      simp [c3, this]
    by_cases c4 : p.kind = 4
    · have : ¬ v.kind = 3 := fun q => hh (.inr ⟨c4, q⟩)
      simp [c4, this]
    by_cases c5 : p.kind = 5
    · by_cases c : v.kind = 4 <;> simp [c5, c]
    by_cases c6 : p.kind = 6
    · simp [c6]
    · simp [c3, c4, c5, c6]
  refine aw_sr rfl ?_  -- r8 @low.go:258
  simp only [go_sem, reduceIte, Nat.reduceEqDiff, Nat.reduceAdd, Nat.reduceMul, Nat.reduceSub, Nat.reduceLeDiff, Nat.reduceLT, reduceCtorEq, h2, h3]
  refine aw_if rfl (fun h => ?_) (fun h => ?_)
  · have h5 : p.kind = 5 ∧ v.kind = 4 := by simpa using h
    rw [if_pos h5] at hF3
    refine aw_srd [(0,true),(1,true),(2,true),(3,true),(4,true),(5,true),(6,true)] mixed rfl (by kernel_rfl) ?_  -- r9 @low.go:259
    simp only [go_sem, reduceIte, Nat.reduceEqDiff, Nat.reduceAdd, Nat.reduceMul, Nat.reduceSub, Nat.reduceLeDiff, Nat.reduceLT, reduceCtorEq, h2, h3]
    refine aw_ret ⟨trivial, _, rfl, ?_, hsB⟩
    rw [hF3]
    exact bnd_if (by by_cases c : p.text = v.text <;> simp [c, eq_comm])
  have h5 : ¬ (p.kind = 5 ∧ v.kind = 4) := by simpa using h
  rw [if_neg h5] at hF3
  refine aw_sr rfl ?_  -- r10 @low.go:260
  simp only [go_sem, reduceIte, Nat.reduceEqDiff, Nat.reduceAdd, Nat.reduceMul, Nat.reduceSub, Nat.reduceLeDiff, Nat.reduceLT, reduceCtorEq, h2, h3, List.length_map]
  by_cases hc : p.kind = 6 ∧ v.kind = 5 ∧ v.text = p.text ∧ v.args.length = p.args.length
  · rw [if_pos hc] at hF3
    obtain ⟨e1, e2, e3, e4⟩ := hc
    refine aw_if rfl (fun h => ?_) (fun h => ?_)
    · exfalso; revert h; simp [e1, e2, e3, e4]
    refine aw_skip (hK6 _ _ ?_)
    refine aw_sr rfl ?_  -- r12 @low.go:263
    simp only [go_sem, reduceIte, Nat.reduceEqDiff, Nat.reduceAdd, Nat.reduceMul, Nat.reduceSub, Nat.reduceLeDiff, Nat.reduceLT, reduceCtorEq]
    refine aw_sr rfl ?_  -- r13 @low.go:264
    simp only [go_sem, reduceIte, Nat.reduceEqDiff, Nat.reduceAdd, Nat.reduceMul, Nat.reduceSub, Nat.reduceLeDiff, Nat.reduceLT, reduceCtorEq]
    refine aw_seq fun K7 hK7 => ?_
    refine aw_sr rfl ?_  -- r14 @low.go:265
    simp only [go_sem, reduceIte, Nat.reduceEqDiff, Nat.reduceAdd, Nat.reduceMul, Nat.reduceSub, Nat.reduceLeDiff, Nat.reduceLT, reduceCtorEq, h2]
    refine aw_range p.args.length (S := List Val × Bool × Tag × Heap) (fun i s => [(2, .ptr b2 0), (3, .ptr b3 0), (6, .sl (s.1.map eVal) s.1.isEmpty s.2.2.1), (7, .bool s.2.1)]) (fun _ s => s.2.2.2) (fun i s => Rm G s.2.2.2 4 s.2.2.1 ∧ Sub G s.2.2.2 ∧ hget s.2.2.2 b2 = some (.vars (cPat p)) ∧ hget s.2.2.2 b3 = some (.vars (cV v)) ∧ s.1.length ≤ pszs (p.args.take i) ∧ s.2.1 = (fitsFs (p.args.take i) (v.args.take i)).isSome ∧ (s.2.1 = true → fitsFs (p.args.take i) (v.args.take i) = some s.1)) ([], true, .full, B1) (by omega) ?_ (fun _ _ h => h) ⟨Rm.start _ _ _, hsB, h2, h3, by simp, by simp [fitsFs], fun _ => by simp [fitsFs]⟩ rfl (fun _ _ => rfl) ?_ ?_ (by decide)
    · simp only [go_sem, reduceIte, Nat.reduceEqDiff, Nat.reduceAdd, Nat.reduceMul, Nat.reduceSub, Nat.reduceLeDiff, Nat.reduceLT, reduceCtorEq, Int.natCast_zero, List.map_nil, List.isEmpty_nil]
    · intro i ⟨out, ok, t, H⟩ hi ⟨hr, hs, j2, j3, hol, ho1, ho2⟩
      simp only at hr hs j2 j3 hol ho1 ho2 ⊢
      have hi2 : i < v.args.length := by omega
      have hmem : p.args[i] ∈ p.args := List.getElem_mem hi
      have hq := ih p.args[i] v.args[i] (by have := Pat.sz_args hmem; omega) (hp.arg hmem) (Nat.le_trans (Nat.le_of_lt (Pat.sz_args hmem)) hsz)
      have hnx := fitss_take hi hi2
      have hsucc := pszs_take_succ hi
      have hps := pszs_take_le p.args (i + 1)
      have hp1 := p.sz_eq
      have hfl := fits_len p.args[i] v.args[i]
      refine aw_sr rfl ?_  -- r16 @low.go:265
      simp only [go_sem, reduceIte, Nat.reduceEqDiff, Nat.reduceAdd, Nat.reduceMul, Nat.reduceSub, Nat.reduceLeDiff, Nat.reduceLT, reduceCtorEq]
      refine aw_srd [(0,true),(1,true),(2,true),(3,true),(4,true),(5,true),(6,true),(7,true),(8,true),(9,true),(10,true),(11,true),(12,true),(13,true),(14,true),(15,true)] mixed rfl (by kernel_rfl) ?_  -- r17 @low.go:266
      simp only [go_sem, reduceIte, Nat.reduceEqDiff, Nat.reduceAdd, Nat.reduceMul, Nat.reduceSub, Nat.reduceLeDiff, Nat.reduceLT, reduceCtorEq, j2, j3, getD_map hi, getD_map hi2, ePat_eq, eC]
      refine ⟨⟨by omega, by omega, wid_ePat _⟩, ⟨by omega, by omega, wid_eVal _⟩, ?_⟩
      refine goQ_by hq ?_
      cases hf : fitsF p.args[i] v.args[i] with
      | none =>
        rw [hf] at hnx
        have hnn : fitsFs (p.args.take (i + 1)) (v.args.take (i + 1)) = none := by rw [hnx]; cases fitsFs (p.args.take i) (v.args.take i) <;> rfl
        simp only [go_sem, reduceIte, Nat.reduceEqDiff, Nat.reduceAdd, Nat.reduceMul, Nat.reduceSub, Nat.reduceLeDiff, Nat.reduceLT, reduceCtorEq, bndV]
        refine aw_rg rfl ?_  -- r18 @low.go:267
        simp only [go_sem, reduceIte, Nat.reduceEqDiff, Nat.reduceAdd, Nat.reduceMul, Nat.reduceSub, Nat.reduceLeDiff, Nat.reduceLT, reduceCtorEq]
        refine goP_rm (G := G) hr hs ⟨rfl, rfl, by decide, wid_eVal _, wid_eVal [], sca_eVal [], by simp only [List.length_map, List.length_nil]; omega, by simp only [List.length_map, List.length_nil]; omega⟩ fun t6 H6 hr6 hs6 hg6 => ?_
        simp only [go_sem, reduceIte, Nat.reduceEqDiff, Nat.reduceAdd, Nat.reduceMul, Nat.reduceSub, Nat.reduceLeDiff, Nat.reduceLT, reduceCtorEq]
        refine ⟨(out, false, t6, H6), ⟨hr6, hs6, hg6.vars j2, hg6.vars j3, by simp only; omega, by simp only; rw [hnn]; rfl, fun h => by cases h⟩, ?_, sub_rfl⟩
        simp only [List.append_nil, List.isEmpty_nil, Bool.and_true]
        cases ok <;> exact (by repeat' first | exact rfl | exact trivial | refine And.intro ?_ ?_)
      | some l =>
        have hl := hfl _ hf
        simp only [go_sem, reduceIte, Nat.reduceEqDiff, Nat.reduceAdd, Nat.reduceMul, Nat.reduceSub, Nat.reduceLeDiff, Nat.reduceLT, reduceCtorEq, bndV]
        refine aw_rg rfl ?_  -- r18 @low.go:267
        simp only [go_sem, reduceIte, Nat.reduceEqDiff, Nat.reduceAdd, Nat.reduceMul, Nat.reduceSub, Nat.reduceLeDiff, Nat.reduceLT, reduceCtorEq]
        refine goP_rm (G := G) hr hs ⟨rfl, rfl, by decide, wid_eVal _, wid_eVal _, sca_eVal _, by simp only [List.length_map]; omega, by simp only [List.length_map]; omega⟩ fun t6 H6 hr6 hs6 hg6 => ?_
        simp only [go_sem, reduceIte, Nat.reduceEqDiff, Nat.reduceAdd, Nat.reduceMul, Nat.reduceSub, Nat.reduceLeDiff, Nat.reduceLT, reduceCtorEq]
        rw [hf] at hnx
        refine ⟨(out ++ l, ok, t6, H6), ⟨hr6, hs6, hg6.vars j2, hg6.vars j3, by simp only [List.length_append]; omega, ?_, fun h => ?_⟩, ?_, sub_rfl⟩
        · simp only; rw [hnx, ho1]; cases fitsFs (p.args.take i) (v.args.take i) <;> rfl
        · simp only at h ⊢; rw [hnx, ho2 h]
        · rw [List.map_append, isE_app, ← List.isEmpty_map (f := eVal) (l := l)]
          cases ok <;> exact (by repeat' first | exact rfl | exact trivial | refine And.intro ?_ ?_)
    intro ⟨out, ok, t, H⟩ ⟨hr, hs, j2, j3, hol, ho1, ho2⟩
    simp only at hr hs j2 j3 hol ho1 ho2 ⊢
    rw [List.take_length, ← e4, List.take_length] at ho1 ho2
    refine hK7 _ _ ?_
    refine aw_seq fun K8 hK8 => ?_
    refine aw_sr rfl ?_  -- r20 @low.go:269
    simp only [go_sem, reduceIte, Nat.reduceEqDiff, Nat.reduceAdd, Nat.reduceMul, Nat.reduceSub, Nat.reduceLeDiff, Nat.reduceLT, reduceCtorEq]
    cases ok with
    | false =>
      refine aw_if rfl (fun h => ?_) (fun h => by cases h)
      refine aw_sr rfl ?_  -- r21 @low.go:270
      simp only [go_sem, reduceIte, Nat.reduceEqDiff, Nat.reduceAdd, Nat.reduceMul, Nat.reduceSub, Nat.reduceLeDiff, Nat.reduceLT, reduceCtorEq]
      refine aw_ret ⟨trivial, _, rfl, ?_, hs⟩
      rw [hF3]
      cases hn : fitsFs p.args v.args with
      | none => exact bnd_no rfl
      | some l => rw [hn] at ho1; cases ho1
    | true =>
      refine aw_if rfl (fun h => by cases h) (fun h => ?_)
      refine aw_skip (hK8 _ _ ?_)
      refine aw_sr rfl ?_  -- r22 @low.go:272
      simp only [go_sem, reduceIte, Nat.reduceEqDiff, Nat.reduceAdd, Nat.reduceMul, Nat.reduceSub, Nat.reduceLeDiff, Nat.reduceLT, reduceCtorEq]
      refine aw_ret ⟨trivial, _, rfl, ?_, hs⟩
      rw [hF3, ho2 rfl]
      exact Vle.tupL (.cons Vle.untag (.cons (Vle.refl _) .nil))
  · rw [if_neg hc] at hF3
    refine aw_if rfl (fun h => ?_) (fun h => ?_)
    · refine aw_sr rfl ?_  -- r11 @low.go:261
      simp only [go_sem, reduceIte, Nat.reduceEqDiff, Nat.reduceAdd, Nat.reduceMul, Nat.reduceSub, Nat.reduceLeDiff, Nat.reduceLT, reduceCtorEq]
      refine aw_ret ⟨trivial, _, rfl, ?_, hsB⟩
      rw [hF3]; exact bnd_no rfl
    · exfalso
      apply hc
      revert h
      by_cases c0 : p.kind = 6 <;> by_cases c1 : v.kind = 5 <;> by_cases c2 : p.text = v.text <;> by_cases c3 : p.args.length = v.args.length <;> simp [c0, c1, c2, c3, Int.natCast_inj]
/-! ### The first pattern that fits -/
namespace ar
def firstF (v : Val) (l : List Pat) : Int := idx (l.findIdx? fun p => (fitsF p v).isSome)
where idx : Option Nat → Int | some i => i | none => -1
def boundF (v : Val) (l : List Pat) : List Val := match l.find? fun p => (fitsF p v).isSome with | some p => (fitsF p v).getD [] | none => []
theorem first_at {v : Val} {l : List Pat} {i : Nat} (hi : i < l.length) {b : List Val} (h : fitsF l[i] v = some b) (hb : ∀ j (hj : j < l.length), j < i → fitsF l[j] v = none) : firstF v l = i ∧ boundF v l = b := by
  have h1 : l.findIdx? (fun p => (fitsF p v).isSome) = some i := List.findIdx?_eq_some_iff_getElem.2 ⟨hi, by rw [h]; rfl, fun j hj => by rw [hb j (by omega) hj]; simp⟩
  have h2 : l.find? (fun p => (fitsF p v).isSome) = some l[i] := List.find?_eq_some_iff_getElem.2 ⟨by rw [h]; rfl, i, hi, rfl, fun j hj => by rw [hb j (by omega) hj]; simp⟩
  exact ⟨by rw [firstF, h1]; rfl, by rw [boundF, h2]; simp only; rw [h]; rfl⟩
theorem first_none {v : Val} {l : List Pat} (hb : ∀ j (hj : j < l.length), fitsF l[j] v = none) : firstF v l = -1 ∧ boundF v l = [] := by
  have h1 : l.findIdx? (fun p => (fitsF p v).isSome) = none := List.findIdx?_eq_none_iff.2 fun x hx => by
    obtain ⟨j, hj, rfl⟩ := List.getElem_of_mem hx
    rw [hb j hj]; rfl
  have h2 : l.find? (fun p => (fitsF p v).isSome) = none := List.find?_eq_none.2 fun x hx => by
    obtain ⟨j, hj, rfl⟩ := List.getElem_of_mem hx
    rw [hb j hj]; simp
  exact ⟨by rw [firstF, h1]; rfl, by rw [boundF, h2]⟩
end ar
theorem q_First (l : List Pat) (nl : Bool) (t : Tag) (v : Val) (hl : l.length ≤ 1048576) (hok : ∀ p ∈ l, OkPat p ∧ p.sz ≤ bulk) : Quiet Try.prog 54 [.sl (l.map ePat) nl t, .agg (cV v)] (.tup [.int .i64 (firstF v l), .sl ((boundF v l).map eVal) (boundF v l).isEmpty .no]) := by
  refine Quiet.weak fun G => ?_
  refine acall_body (rs := [.tmp 4, .tmp 5]) Try.func54 rfl rfl Try.ntmps54 (by kernel_rfl) (Nat.le_of_ble_eq_true rfl) ?_
  refine aw_sr rfl ?_  -- r0 @arms.go:132
  simp only [go_sem, reduceIte, Nat.reduceEqDiff, Nat.reduceAdd, Nat.reduceMul, Nat.reduceSub, Nat.reduceLeDiff, Nat.reduceLT, reduceCtorEq]
  intro b3 hb3
  refine aw_box1 hb3 fun B1 hs1 h3 => ?_
  refine aw_seq fun K1 hK1 => ?_
  refine aw_sr rfl ?_  -- r1 @arms.go:133
  simp only [go_sem, reduceIte, Nat.reduceEqDiff, Nat.reduceAdd, Nat.reduceMul, Nat.reduceSub, Nat.reduceLeDiff, Nat.reduceLT, reduceCtorEq]
  refine aw_range l.length (S := Unit) (fun i _ => [(3, .ptr b3 0), (10, .sl (l.map ePat) nl t)]) (fun _ _ => B1) (fun i _ => ∀ j (hj : j < l.length), j < i → fitsF l[j] v = none) () (by omega) ?_ (fun _ _ h => h) (fun j _ h => by omega) rfl (fun _ _ => rfl) ?_ ?_ (by decide)
  · simp only [go_sem, reduceIte, Nat.reduceEqDiff, Nat.reduceAdd, Nat.reduceMul, Nat.reduceSub, Nat.reduceLeDiff, Nat.reduceLT, reduceCtorEq, Int.natCast_zero]
  · intro i _ hi he
    have hm := hok _ (List.getElem_mem hi)
    have hq := q_Bind _ l[i] v (Nat.le_refl _) hm.1 hm.2
    refine aw_sr rfl ?_  -- r3 @arms.go:133
    simp only [go_sem, reduceIte, Nat.reduceEqDiff, Nat.reduceAdd, Nat.reduceMul, Nat.reduceSub, Nat.reduceLeDiff, Nat.reduceLT, reduceCtorEq, getD_map hi, ePat_eq]
    refine ⟨⟨by omega, by omega, wid_ePat _⟩, ?_⟩
    intro b7 hb7
    refine aw_box1 hb7 fun B2 hs2 h7 => ?_
    have j3 := hs2 _ _ h3
    refine aw_sr rfl ?_  -- r4 @arms.go:134
    simp only [go_sem, reduceIte, Nat.reduceEqDiff, Nat.reduceAdd, Nat.reduceMul, Nat.reduceSub, Nat.reduceLeDiff, Nat.reduceLT, reduceCtorEq, j3, h7]
    refine goA_q hq ?_
    cases hf : fitsF l[i] v with
    | none =>
      simp only [go_sem, reduceIte, Nat.reduceEqDiff, Nat.reduceAdd, Nat.reduceMul, Nat.reduceSub, Nat.reduceLeDiff, Nat.reduceLT, reduceCtorEq, bndV]
      refine aw_sr rfl ?_  -- r5 @arms.go:134
      simp only [go_sem, reduceIte, Nat.reduceEqDiff, Nat.reduceAdd, Nat.reduceMul, Nat.reduceSub, Nat.reduceLeDiff, Nat.reduceLT, reduceCtorEq]
      refine aw_if rfl (fun h => by cases h) (fun h => ?_)
      refine aw_skip ⟨(), fun j hj hlt => ?_, ?_, hs2⟩
      · by_cases e : j = i
        · subst e; exact hf
        · exact he j hj (by omega)
      simp only [go_sem, reduceIte, Nat.reduceEqDiff, Nat.reduceAdd, Nat.reduceMul, Nat.reduceSub, Nat.reduceLeDiff, Nat.reduceLT, reduceCtorEq]
    | some b =>
      obtain ⟨e1, e2⟩ := first_at hi hf he
      simp only [go_sem, reduceIte, Nat.reduceEqDiff, Nat.reduceAdd, Nat.reduceMul, Nat.reduceSub, Nat.reduceLeDiff, Nat.reduceLT, reduceCtorEq, bndV]
      refine aw_sr rfl ?_  -- r5 @arms.go:134
      simp only [go_sem, reduceIte, Nat.reduceEqDiff, Nat.reduceAdd, Nat.reduceMul, Nat.reduceSub, Nat.reduceLeDiff, Nat.reduceLT, reduceCtorEq]
      refine aw_if rfl (fun h => ?_) (fun h => by cases h)
      refine aw_sr rfl ?_  -- r6 @arms.go:135
      simp only [go_sem, reduceIte, Nat.reduceEqDiff, Nat.reduceAdd, Nat.reduceMul, Nat.reduceSub, Nat.reduceLeDiff, Nat.reduceLT, reduceCtorEq]
      refine aw_ret ⟨trivial, _, rfl, ?_, sub_trans hs1 hs2⟩
      rw [e1, e2]
      exact Vle.tupL (.cons (Vle.refl _) (.cons (Vle.refl _) .nil))
  intro _ he
  obtain ⟨e1, e2⟩ := first_none fun j hj => he j hj hj
  refine hK1 _ _ ?_
  refine aw_sr rfl ?_  -- r8 @arms.go:138
  simp only [go_sem, reduceIte, Nat.reduceEqDiff, Nat.reduceAdd, Nat.reduceMul, Nat.reduceSub, Nat.reduceLeDiff, Nat.reduceLT, reduceCtorEq]
  refine aw_ret ⟨trivial, _, rfl, ?_, hs1⟩
  rw [e1, e2]
  exact Vle.tupL (.cons (Vle.refl _) (.cons Vle.untag .nil))
theorem q_Questions : ∀ (n : Nat) (p : Pat), p.sz ≤ n → OkPat p → p.sz ≤ bulk → Quiet Try.prog 55 [.agg (cPat p)] (.int .i64 (questF p)) := by
  intro n
  induction n with
  | zero => intro p h; have := p.sz_eq; omega
  | succ n ih =>
  intro p hn hp hsz
  have hpl : p.args.length ≤ 1048576 := hp.len
  have hsz' : p.sz ≤ 1048576 := hsz
  have hF := quest_eq p
  refine Quiet.weak fun G => ?_
  refine acall_body (rs := [.tmp 2]) Try.func55 rfl rfl Try.ntmps55 (by kernel_rfl) (Nat.le_of_ble_eq_true rfl) ?_
  refine aw_sr rfl ?_  -- r0 @low.go:276
  simp only [go_sem, reduceIte, Nat.reduceEqDiff, Nat.reduceAdd, Nat.reduceMul, Nat.reduceSub, Nat.reduceLeDiff, Nat.reduceLT, reduceCtorEq]
  intro b1 hb1
  refine aw_box1 hb1 fun B1 hs1 h1 => ?_
  refine aw_sr rfl ?_  -- r1 @low.go:277
  simp only [go_sem, reduceIte, Nat.reduceEqDiff, Nat.reduceAdd, Nat.reduceMul, Nat.reduceSub, Nat.reduceLeDiff, Nat.reduceLT, reduceCtorEq]
  refine aw_mid (fun f' G' => FSub [(3, .int .i64 (questF p))] f' ∧ Sub B1 G') ?_ ?_
  · -- 3 ways
    refine aw_sr rfl ?_  -- r2 @low.go:278
    simp only [go_sem, reduceIte, Nat.reduceEqDiff, Nat.reduceAdd, Nat.reduceMul, Nat.reduceSub, Nat.reduceLeDiff, Nat.reduceLT, reduceCtorEq, h1]
    refine aw_block ?_  -- 0
    refine aw_chain rfl rfl rfl rfl rfl ?_  -- t7 is one of [3, 4, 5]
    refine aw_if rfl (fun h => ?_) (fun h => ?_)
    · have hk : p.kind = 3 ∨ p.kind = 4 ∨ p.kind = 5 := by simpa using h
      rw [if_pos hk] at hF
      refine aw_rg rfl ?_  -- r6 @low.go:280
      simp only [go_sem, reduceIte, Nat.reduceEqDiff, Nat.reduceAdd, Nat.reduceMul, Nat.reduceSub, Nat.reduceLeDiff, Nat.reduceLT, reduceCtorEq]
      rw [hF]
      exact ⟨(by repeat' first | exact rfl | exact trivial | refine And.intro ?_ ?_), sub_rfl⟩
    · have hk : ¬ (p.kind = 3 ∨ p.kind = 4 ∨ p.kind = 5) := by simpa using h
      rw [if_neg hk] at hF
      refine aw_chain rfl rfl rfl rfl rfl ?_  -- t7 is one of [6]
      refine aw_if rfl (fun h => ?_) (fun h => ?_)
      · have hk6 : p.kind = 6 := by simpa using h
        rw [if_pos hk6] at hF
        refine aw_sr rfl ?_  -- r8 @low.go:282
        simp only [go_sem, reduceIte, Nat.reduceEqDiff, Nat.reduceAdd, Nat.reduceMul, Nat.reduceSub, Nat.reduceLeDiff, Nat.reduceLT, reduceCtorEq]
        refine aw_sr rfl ?_  -- r9 @low.go:283
        simp only [go_sem, reduceIte, Nat.reduceEqDiff, Nat.reduceAdd, Nat.reduceMul, Nat.reduceSub, Nat.reduceLeDiff, Nat.reduceLT, reduceCtorEq, h1]
        refine aw_range p.args.length (S := Heap) (fun i _ => [(3, .int .i64 ((1 + questFs (p.args.take i) : Nat) : Int)), (15, .sl (p.args.map ePat) p.nl .no)]) (fun _ s => s) (fun i s => Sub B1 s) B1 (by omega) ?_ (fun _ _ h => h) sub_rfl rfl (fun _ _ => rfl) ?_ ?_ (by decide)
        · simp only [go_sem, reduceIte, Nat.reduceEqDiff, Nat.reduceAdd, Nat.reduceMul, Nat.reduceSub, Nat.reduceLeDiff, Nat.reduceLT, reduceCtorEq, Int.natCast_zero, List.take_zero, questFs]
          rfl
        · intro i H hi hs
          have hmem : p.args[i] ∈ p.args := List.getElem_mem hi
          have hq := ih p.args[i] (by have := Pat.sz_args hmem; omega) (hp.arg hmem) (Nat.le_trans (Nat.le_of_lt (Pat.sz_args hmem)) hsz)
          have hnx := questFs_take hi
          have hle := quests_le (p.args.take (i + 1))
          have hps := pszs_take_le p.args (i + 1)
          have hp1 := p.sz_eq
          refine aw_sr rfl ?_  -- r11 @low.go:283
          simp only [go_sem, reduceIte, Nat.reduceEqDiff, Nat.reduceAdd, Nat.reduceMul, Nat.reduceSub, Nat.reduceLeDiff, Nat.reduceLT, reduceCtorEq, getD_map hi, ePat_eq]
          refine ⟨⟨by omega, by omega, wid_ePat _⟩, ?_⟩
          intro b5 hb5
          refine aw_box1 hb5 fun B2 hs2 h5 => ?_
          refine aw_rg rfl ?_  -- r12 @low.go:284
          simp only [go_sem, reduceIte, Nat.reduceEqDiff, Nat.reduceAdd, Nat.reduceMul, Nat.reduceSub, Nat.reduceLeDiff, Nat.reduceLT, reduceCtorEq, h5]
          refine goA_q hq ?_
          simp only [go_sem, reduceIte, Nat.reduceEqDiff, Nat.reduceAdd, Nat.reduceMul, Nat.reduceSub, Nat.reduceLeDiff, Nat.reduceLT, reduceCtorEq]
          rw [wrap64 (by omega) (by omega)]
          refine ⟨B2, sub_trans hs hs2, ?_, sub_rfl⟩
          rw [hnx]
          rw [show ((1 + (questFs (p.args.take i) + questF p.args[i]) : Nat) : Int) = ((1 + questFs (p.args.take i) : Nat) : Int) + ((questF p.args[i] : Nat) : Int) by omega]
          exact (by repeat' first | exact rfl | exact trivial | refine And.intro ?_ ?_)
        intro H hs
        rw [List.take_length]
        rw [hF]
        exact ⟨(by repeat' first | exact rfl | exact trivial | refine And.intro ?_ ?_), hs⟩
      · have hk6 : ¬ p.kind = 6 := by simpa using h
        rw [if_neg hk6] at hF
        rw [hF]
        exact aw_skip ⟨(by repeat' first | exact rfl | exact trivial | refine And.intro ?_ ?_), sub_rfl⟩
  intro f' G' ⟨hf, hg⟩
  refine AW.of_fsub hf ?_
  refine aw_sr rfl ?_  -- r14 @low.go:287
  simp only [go_sem, reduceIte, Nat.reduceEqDiff, Nat.reduceAdd, Nat.reduceMul, Nat.reduceSub, Nat.reduceLeDiff, Nat.reduceLT, reduceCtorEq]
  exact aw_ret ⟨trivial, _, rfl, Vle.refl _, sub_trans hs1 hg⟩
end Go.Proofs.Ytclmcpbanaojfaa
