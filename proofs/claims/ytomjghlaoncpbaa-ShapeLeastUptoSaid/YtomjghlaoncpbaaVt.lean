/-
  What the walks of functions share: rules for the standing simp call, calls that answer some boolean.
-/
import Derived.Test.YtomjghlaoncpbaaVs
namespace Go.Proofs.YtomjghlaoncpbaaV
set_option linter.unusedVariables false
theorem hset_at {G : Heap} {b : Nat} {o x : AObj} : hset ((b, o) :: G) b x = (b, x) :: G := by simp [hset]
attribute [go_sem] hget_self hset_at List.all_cons List.all_nil scalarV Nat.zero_add
theorem hsub_at {G : Heap} {b : Nat} {o : AObj} (h : hget G b = none) : ∀ b' o', hget G b' = some o' → hget ((b, o) :: G) b' = some o' := sub_tail h
/-- slices.IndexFunc's answer. -/
def ixI : Option Nat → Int | none => -1 | some i => i
theorem ixI_at {A : Type} {f : A → Bool} {xs : List A} {i : Nat} (hi : i < xs.length) (h : f xs[i] = true) (hb : ∀ j (hj : j < i), f xs[j] = false) : ixI (xs.findIdx? f) = (i : Int) := by
  have e : xs.findIdx? f = some i := List.findIdx?_eq_some_iff_getElem.2 ⟨hi, h, fun j hj => by rw [hb j hj]; simp⟩
  rw [e]; rfl
theorem ixI_none {A : Type} {f : A → Bool} {xs : List A} (h : ∀ j (hj : j < xs.length), f xs[j] = false) : ixI (xs.findIdx? f) = -1 := by
  have e : xs.findIdx? f = none := List.findIdx?_eq_none_iff.2 fun x hx => by
    obtain ⟨j, hj, rfl⟩ := List.getElem_of_mem hx
    exact h j hj
  rw [e]; rfl
/-! Calls that answer a boolean, whichever, and change nothing. -/
def QB (P : Program) (g : FuncId) (args : List V) : Prop := ∀ G, ACall P g args (fun y G' => (∃ b, y = .bool b) ∧ G' = G) G
theorem QB.weak {P : Program} {g : FuncId} {args : List V} (h : ∀ G, ACall P g args (fun y G' => (∃ b, Vle y (.bool b)) ∧ Sub G G') G) : QB P g args :=
  fun G => ACall.weak ((h G).mono fun y G' ⟨⟨b, h1⟩, h2⟩ => ⟨.bool b, G, h1, h2, ⟨b, rfl⟩, rfl⟩)
theorem Quiet.qb {P : Program} {g : FuncId} {args : List V} {b : Bool} (h : Quiet P g args (.bool b)) : QB P g args := fun G => (h G).mono fun y G' ⟨h1, h2⟩ => ⟨⟨b, h1⟩, h2⟩
section
variable {P : Program} {ops : List Oper} {d : Option Tmp} {r : Rest} {f : Frame} {G : Heap} {K : Kf}
theorem goA_qb {g : FuncId} {xs : List V} (h : QB P g xs) (hk : ∀ b, go P ops r (fput f d (.bool b)) G K) : goA P ops g xs d r f G K :=
  goA_by (h G) fun y G' ⟨⟨b, h1⟩, h2⟩ => by subst h1; subst h2; exact hk b
theorem goH_qb {n : FuncId} {xs : List V} {g : Bool} (h : g = true → QB P n xs) (hk : ∀ b, go P ops r (fput f d (.opt g (.bool b))) G K) : goH P ops n xs g d r f G K :=
  ⟨fun e => (h e G).mono fun y G' ⟨⟨b, h1⟩, h2⟩ => by subst h1; subst h2; exact hk b, fun e => ⟨_, hk true⟩⟩
end
/-- Two slices with room of their own: which of them stands first does not matter. -/
theorem Room.swap {G B H : Heap} {n m : Nat} {t s : Tag} (h : Room B n t H) (k : Room G m s B) : ∃ B' H', Room B' m s H' ∧ Room G n t B' ∧ Sub H' H := by
  rcases h with ⟨rfl, rfl⟩ | ⟨b1, e1, c1, rfl, h1, rfl⟩
  · exact ⟨G, H, k, .inl ⟨rfl, rfl⟩, fun _ _ h => h⟩
  · rcases k with ⟨rfl, rfl⟩ | ⟨b2, e2, c2, rfl, h2, rfl⟩
    · exact ⟨_, _, .inl ⟨rfl, rfl⟩, .inr ⟨b1, e1, c1, rfl, h1, rfl⟩, fun _ _ h => h⟩
    · obtain ⟨n1, n2⟩ := fresh_cons h1
      exact ⟨(b1, .top e1 c1) :: G, (b2, .top e2 c2) :: (b1, .top e1 c1) :: G, .inr ⟨b2, e2, c2, rfl, by rw [hget_cons_ne n1]; exact h2, rfl⟩, .inr ⟨b1, e1, c1, rfl, n2, rfl⟩, sub_swap (fun e => n1 e.symm)⟩
/-! ### regions that may be walked in two orders: two operations are ready, and each may be the first -/
section
variable {P : Program} {ops : Array Oper} {qs : Nat → Bool} {N : Nat}
theorem anyA_firstD {K : Kq} {i : Nat} {oi : Oper} {x : V} (hi : ops[i]? = some oi) (hqi : qs i = true) (D : Nat → Bool) (hD : ∀ j oj, D j = true → ops[j]? = some oj → ∃ e ∈ oj.after, Region.binds .any e = true ∧ (e.on = i ∨ D e.on = true)) : ∀ (n : Nat) (listed : Array Bool) (f : FF) (G : Heap),
    (∀ j, D j = true → listed[j]? = some false) → (∀ j oj, ops[j]? = some oj → j ≠ i → D j = false → listed.getD j true = false → (∀ e ∈ oj.after, Region.binds .any e = true → e.on ≠ i) → oi.apart ops oj = true ∧ commB (qs j) oi oj = true) →
    i ∈ Region.ready .any ops listed → Ans1 P ops oi f G x → anyA P ops qs K n (listed.setIfInBounds i true) (upd f oi.dst x) G → anyA P ops qs K (n + 1) listed f G := by
  intro n
  induction n with
  | zero =>
    intro listed f G _ _ hr hy H
    refine ⟨fun h => (by rw [h] at hr; cases hr), fun j hj => ?_⟩
    by_cases hji : j = i
    · subst hji; exact hy.aOp hi hqi H
    · have := ready_mono hj hji
      rw [H.1] at this
      cases this
  | succ n ih =>
    intro listed f G hdl hfree hr hy H
    refine ⟨fun h => (by rw [h] at hr; cases hr), fun j hj => ?_⟩
    by_cases hji : j = i
    · subst hji; exact hy.aOp hi hqi H
    · have h1 := H.2 j (ready_mono hj hji)
      obtain ⟨hjun, oj, hoj, hall⟩ := mem_ready.1 hj
      have hnot : ∀ e ∈ oj.after, Region.binds .any e = true → e.on ≠ i := fun e he hb heq => by
        have h1 := hall e he hb
        have h0 := (mem_ready.1 hr).1
        rw [heq] at h1
        rcases Nat.lt_or_ge i listed.size with h' | h'
        · simp [h'] at h0 h1; rw [h0] at h1; cases h1
        · simp [Array.getElem?_eq_none h'] at h1
      have hDj : D j = false := by
        cases hq : D j with
        | false => rfl
        | true =>
          obtain ⟨e, he, hb, hc⟩ := hD j oj hq hoj
          rcases hc with hc | hc
          · exact absurd hc (hnot e he hb)
          · have g1 := hall e he hb
            have g2 := hdl _ hc
            obtain ⟨h', g3⟩ := Array.getElem?_eq_some_iff.1 g2
            simp [h'] at g1
            rw [g3] at g1; cases g1
      obtain ⟨hap, hcm⟩ := hfree j oj hoj hji hDj hjun hnot
      have hdl' : ∀ k, D k = true → (listed.setIfInBounds j true)[k]? = some false := fun k hk => by
        by_cases e : j = k
        · subst e; rw [hDj] at hk; cases hk
        · rw [Array.getElem?_setIfInBounds_ne e]; exact hdl k hk
      have h2 := aOp_put (i := i) hoj hap hcm hy h1
      have hfree' : ∀ k ok, ops[k]? = some ok → k ≠ i → D k = false → (listed.setIfInBounds j true).getD k true = false → (∀ e ∈ ok.after, Region.binds .any e = true → e.on ≠ i) → oi.apart ops ok = true ∧ commB (qs k) oi ok = true := fun k ok hk hki hdk hun hno => by
        refine hfree k ok hk hki hdk ?_ hno
        by_cases hjk : j = k
        · subst hjk; exact hjun
        · rw [getD_set_ne true hjk] at hun; exact hun
      refine aOp_mono (fun f' G' h3 => ih (listed.setIfInBounds j true) f' G' hdl' hfree' (ready_mono hr (Ne.symm hji)) h3.1 ?_) h2
      rw [Array.setIfInBounds_comm _ _ hji]
      exact h3.2
end
/-- What can only be walked behind an operation. -/
def lateOf (ops : Array Oper) (i : Nat) : List Nat := (List.range ops.size).foldl (fun D j => match ops[j]? with
  | some oj => if oj.after.any (fun e => Region.binds .any e && (e.on == i || D.contains e.on)) then j :: D else D
  | none => D) []
def freeC (ops : Array Oper) (qs : Nat → Bool) (listed : Array Bool) (i : Nat) : Bool :=
  let D := lateOf ops i
  D.all (fun j => listed[j]? == some false && match ops[j]? with | some oj => oj.after.any (fun e => Region.binds .any e && (e.on == i || D.contains e.on)) | none => true) &&
  match ops[i]? with
  | none => false
  | some oi => (List.range ops.size).all fun j => j == i || D.contains j || listed.getD j true || match ops[j]? with
      | some oj => oj.after.any (fun e => Region.binds .any e && e.on == i) || (oi.apart ops oj && commB (qs j) oi oj)
      | none => true
def ordPre (ops : Array Oper) (qs : Nat → Bool) (E : Array Bool → Bool) : List (Nat × Bool) → Array Bool → Bool
  | [], listed => E listed
  | (i, q) :: σ, listed => (Region.ready .any ops listed).contains i && (qs i == q) && (if q then freeC ops qs listed i else Region.ready .any ops listed == [i]) && ordPre ops qs E σ (listed.setIfInBounds i true)
section
variable {P : Program} {N : Nat} {Q : Cont} {f : Frame} {G : Heap}
theorem rgD_anyP {ops : List Oper} {qs : Nat → Bool} {E : Array Bool → Bool} {K : Kf} {K' : Kq} {m : Nat} (hE : ∀ listed f G, E listed = true → K f G → anyA P ops.toArray qs K' m listed (fget f) G) : ∀ {σ : List (Nat × Bool)} {listed : Array Bool} {f : Frame} {G : Heap}, ordPre ops.toArray qs E σ listed = true → rgD P ops σ f G K →
    anyA P ops.toArray qs K' (σ.length + m) listed (fget f) G
  | [], listed, f, G, ho, h => by rw [List.length_nil, Nat.zero_add]; exact hE _ _ _ ho h
  | (i, q) :: σ, listed, f, G, ho, h => by
    rw [show ((i, q) :: σ).length + m = (σ.length + m) + 1 by simp only [List.length_cons]; omega]
    simp only [ordPre, Bool.and_eq_true, beq_iff_eq] at ho
    obtain ⟨⟨⟨hr, hqs⟩, hcase⟩, hrest⟩ := ho
    have hr' : i ∈ Region.ready .any ops.toArray listed := by simpa using hr
    unfold rgD at h
    cases ho' : ops[i]? with
    | none => rw [ho'] at h; exact h.elim
    | some o =>
      rw [ho'] at h
      simp only at h
      have hoA : ops.toArray[i]? = some o := by simpa using ho'
      have hrest' : ∀ x G', rgD P ops σ (fput f o.dst x) G' K → anyA P ops.toArray qs K' (σ.length + m) (listed.setIfInBounds i true) (upd (fget f) o.dst x) G' := fun x G' hk => by
        have := rgD_anyP hE hrest hk
        rw [fget_fput] at this; exact this
      cases q with
      | true =>
        simp only [if_true] at hcase
        simp only [freeC, hoA, Bool.and_eq_true] at hcase
        obtain ⟨hc1, hc2⟩ := hcase
        have hdl : ∀ j, (lateOf ops.toArray i).contains j = true → listed[j]? = some false := fun j hj => by
          have := List.all_eq_true.1 hc1 j (by simpa using hj)
          simp only [Bool.and_eq_true, beq_iff_eq] at this
          exact this.1
        have hD : ∀ j oj, (lateOf ops.toArray i).contains j = true → ops.toArray[j]? = some oj → ∃ e ∈ oj.after, Region.binds .any e = true ∧ (e.on = i ∨ (lateOf ops.toArray i).contains e.on = true) := fun j oj hj ho => by
          have := List.all_eq_true.1 hc1 j (by simpa using hj)
          simp only [Bool.and_eq_true, beq_iff_eq] at this
          have h2 := this.2
          rw [ho] at h2
          obtain ⟨e, he, hb⟩ := Array.any_eq_true'.1 h2
          simp only [Bool.and_eq_true, Bool.or_eq_true, beq_iff_eq] at hb
          exact ⟨e, he, hb.1, hb.2⟩
        have hfree : ∀ j oj, ops.toArray[j]? = some oj → j ≠ i → (lateOf ops.toArray i).contains j = false → listed.getD j true = false → (∀ e ∈ oj.after, Region.binds .any e = true → e.on ≠ i) → o.apart ops.toArray oj = true ∧ commB (qs j) o oj = true := by
          intro j oj hj hne hnd hun hno
          have h1 := List.all_eq_true.1 hc2 j (List.mem_range.2 (Array.getElem?_eq_some_iff.1 hj).1)
          simp only [hj, Bool.or_eq_true, beq_iff_eq, hne, false_or, hnd, hun, Bool.false_eq_true, Bool.and_eq_true] at h1
          rcases h1 with h1 | h1
          · obtain ⟨e, he, hb⟩ := Array.any_eq_true'.1 h1
            simp only [Bool.and_eq_true, beq_iff_eq] at hb
            exact absurd hb.2 (hno e he hb.1)
          · exact h1
        cases hg : o.guard with
        | none =>
          rw [hg] at h
          have h : quietK P (fget f) G o.op (fun x G => rgD P ops σ (fput f o.dst x) G K) := h
          obtain ⟨x, h1, h2⟩ := quietK_ev h
          refine anyA_firstD hoA hqs _ hD (σ.length + m) listed (fget f) G hdl hfree hr' (x := x) ?_ (hrest' _ _ h2)
          unfold Ans1; rw [hg]; exact h1
        | some jw =>
          obtain ⟨j, want⟩ := jw
          rw [hg] at h
          simp only at h
          split at h
          · rename_i d hgt
            have hgtA : (ops.toArray[j]?).bind (·.dst) = some d := by unfold gtmp at hgt; simpa using hgt
            split at h
            · rename_i g hb
              have h : quietG P g (fget f) G o.op (fun x G => rgD P ops σ (fput f o.dst x) G K) := h
              obtain ⟨x, h1, h2⟩ := quietG_ev h
              refine anyA_firstD hoA hqs _ hD (σ.length + m) listed (fget f) G hdl hfree hr' (x := .opt g x) ?_ (hrest' _ _ h2)
              unfold Ans1; rw [hg]; simp only; rw [hgtA]; simp only; rw [hb]; exact ⟨x, rfl, h1⟩
            · exact h.elim
          · exact h.elim
      | false =>
        simp only [Bool.false_eq_true, if_false, beq_iff_eq] at hcase
        refine ⟨fun h0 => (by rw [h0] at hr'; cases hr'), fun k hk => ?_⟩
        have hki : k = i := by rw [hcase] at hk; simpa using hk
        subst hki
        unfold aOp
        rw [hoA]
        refine gsem_mono (fun x G' hk => hrest' x G' hk) ?_
        unfold gsem
        cases hg : o.guard with
        | none =>
          rw [hg] at h
          simp only [sem, hqs, Bool.false_eq_true, if_false]
          exact h
        | some jw =>
          obtain ⟨j, want⟩ := jw
          rw [hg] at h
          simp only at h ⊢
          split at h
          · rename_i d hgt
            have hgtA : (ops.toArray[j]?).bind (·.dst) = some d := by unfold gtmp at hgt; simpa using hgt
            rw [hgtA]
            simp only
            split at h
            · rename_i g hb
              try simp only [hb]
              simp only [gs, hqs, Bool.false_eq_true, if_false]
              exact h
            · exact h.elim
          · exact h.elim

def ordC (ops : Array Oper) (σ : List (Nat × Bool)) : Bool := (σ.length == ops.size) && ordPre ops (qOf σ) (fun listed => (Region.ready .any ops listed).isEmpty) σ (Array.replicate ops.size false)
theorem aw_region_drawC {id : Nat} {ops : List Oper} (σ : List (Nat × Bool)) (hmx : P.follows .mixedOrders = true) (hd : ops.all (dstOk N) = true) (ho : ordC ops.toArray σ = true) (h : rgD P ops σ f G (fun f G => Q .normal f G)) : AW P N (.region id ops.toArray true) Q f G := by
  intro E M w a hm hr hn hdf
  simp only [ordC, Bool.and_eq_true, beq_iff_eq] at ho
  have hany := rgD_anyP (K' := fun φ G => ∃ f : Frame, fget f = φ ∧ Q .normal f G) (m := 0) (fun listed f G he hk => ⟨by simpa using he, f, rfl, hk⟩) ho.2 h
  refine wp_region_any hmx ?_
  rw [← ho.1]
  refine anyA_ok (N := N) (E := E) (M := M) (fun i o hi => ?_) (by rw [ho.1]; rw [ho.1] at hany; exact hany) hm.drew hr hn hdf fun M' f' G' a' w' k1 k2 k3 k4 k5 k6 => ?_
  · have := List.all_eq_true.1 hd o (by simp at hi; exact List.mem_of_getElem? hi)
    exact this
  · obtain ⟨f2, rfl, hq⟩ := k6
    exact ⟨M', f2, G', k1, k2, k3, k4, k5, hq⟩
theorem aw_srdC {id : Nat} {l : List Oper} {y : Code} (σ : List (Nat × Bool)) (hmx : P.follows .mixedOrders = true) (hd : l.all (dstOk N) = true) (ho : ordC l.toArray σ = true) (h : go P l (.d σ) f G (fun f G => AW P N y Q f G)) : AW P N (.seq (.region id l.toArray true) y) Q f G :=
  aw_seq' (aw_region_drawC σ hmx hd ho h)
theorem aw_rgdC {id : Nat} {l : List Oper} (σ : List (Nat × Bool)) (hmx : P.follows .mixedOrders = true) (hd : l.all (dstOk N) = true) (ho : ordC l.toArray σ = true) (h : go P l (.d σ) f G (fun f G => Q .normal f G)) : AW P N (.region id l.toArray true) Q f G := aw_region_drawC σ hmx hd ho h
theorem rgD_one {ops : List Oper} {qs : Nat → Bool} {i n : Nat} {τ : List (Nat × Bool)} {K : Kf} {K' : Kq} {listed : Array Bool} (hqs : qs i = false) (h : rgD P ops ((i, false) :: τ) f G K) (hr : ∀ f G, rgD P ops τ f G K → anyA P ops.toArray qs K' n listed (fget f) G) :
    aOp P ops.toArray qs i (anyA P ops.toArray qs K' n listed) (fget f) G := by
  unfold rgD at h
  cases ho' : ops[i]? with
  | none => rw [ho'] at h; exact h.elim
  | some o =>
    rw [ho'] at h
    simp only at h
    have hoA : ops.toArray[i]? = some o := by simpa using ho'
    unfold aOp
    rw [hoA]
    have hrest' : ∀ x G', rgD P ops τ (fput f o.dst x) G' K → anyA P ops.toArray qs K' n listed (upd (fget f) o.dst x) G' := fun x G' hk => by
      have := hr _ _ hk
      rw [fget_fput] at this; exact this
    refine gsem_mono (fun x G' hk => hrest' x G' hk) ?_
    unfold gsem
    cases hg : o.guard with
    | none =>
      rw [hg] at h
      simp only [sem, hqs, Bool.false_eq_true, if_false]
      exact h
    | some jw =>
      obtain ⟨j, want⟩ := jw
      rw [hg] at h
      simp only at h ⊢
      split at h
      · rename_i d hgt
        have hgtA : (ops.toArray[j]?).bind (·.dst) = some d := by unfold gtmp at hgt; simpa using hgt
        rw [hgtA]
        simp only
        split at h
        · rename_i g hb
          try simp only [hb]
          simp only [gs, hqs, Bool.false_eq_true, if_false]
          exact h
        · exact h.elim
      · exact h.elim
def ordFork (ops : Array Oper) (σ : List (Nat × Bool)) (i j : Nat) (τ1 τ2 : List (Nat × Bool)) : Bool :=
  let qs := qOf (σ ++ (i, false) :: (j, false) :: (τ1 ++ τ2))
  (σ.length + (τ1.length + 1) == ops.size) && (τ1.length == τ2.length) && (qs i == false) && (qs j == false) &&
    ordPre ops qs (fun listed => Region.ready .any ops listed == [i, j] && ordFrom ops qs τ1 (listed.setIfInBounds i true) && ordFrom ops qs τ2 (listed.setIfInBounds j true)) σ (Array.replicate ops.size false)
theorem aw_region_fork {id : Nat} {ops : List Oper} (σ : List (Nat × Bool)) (i j : Nat) (τ1 τ2 : List (Nat × Bool)) (hmx : P.follows .mixedOrders = true) (hd : ops.all (dstOk N) = true) (ho : ordFork ops.toArray σ i j τ1 τ2 = true)
    (h : rgD P ops σ f G (fun f G => rgD P ops ((i, false) :: τ1) f G (fun f G => Q .normal f G) ∧ rgD P ops ((j, false) :: τ2) f G (fun f G => Q .normal f G))) : AW P N (.region id ops.toArray true) Q f G := by
  intro E M w a hm hr hn hdf
  simp only [ordFork, Bool.and_eq_true, beq_iff_eq] at ho
  obtain ⟨⟨⟨⟨o1, o2⟩, o3⟩, o4⟩, o5⟩ := ho
  have hany := rgD_anyP (K' := fun φ G => ∃ f : Frame, fget f = φ ∧ Q .normal f G) (m := τ1.length + 1) (fun listed f G he hk => by
    simp only [Bool.and_eq_true, beq_iff_eq] at he
    obtain ⟨⟨e1, e2⟩, e3⟩ := he
    refine ⟨fun h0 => (by rw [e1] at h0; cases h0), fun k hk' => ?_⟩
    rw [e1] at hk'
    rcases List.mem_cons.1 hk' with rfl | hk'
    · exact rgD_one o3 hk.1 fun f G hh => rgD_any e2 hh
    · rw [List.mem_singleton] at hk'
      subst hk'
      exact rgD_one o4 hk.2 fun f G hh => by have := rgD_any e3 hh; rw [← o2] at this; exact this) o5 h
  refine wp_region_any hmx ?_
  rw [← o1]
  refine anyA_ok (N := N) (E := E) (M := M) (fun i o hi => ?_) (by rw [o1]; rw [o1] at hany; exact hany) hm.drew hr hn hdf fun M' f' G' a' w' k1 k2 k3 k4 k5 k6 => ?_
  · have := List.all_eq_true.1 hd o (by simp at hi; exact List.mem_of_getElem? hi)
    exact this
  · obtain ⟨f2, rfl, hq⟩ := k6
    exact ⟨M', f2, G', k1, k2, k3, k4, k5, hq⟩
theorem aw_rgf {id : Nat} {l : List Oper} (σ : List (Nat × Bool)) (i j : Nat) (τ1 τ2 : List (Nat × Bool)) (hmx : P.follows .mixedOrders = true) (hd : l.all (dstOk N) = true) (ho : ordFork l.toArray σ i j τ1 τ2 = true)
    (h : go P l (.d σ) f G (fun f G => go P l (.d ((i, false) :: τ1)) f G (fun f G => Q .normal f G) ∧ go P l (.d ((j, false) :: τ2)) f G (fun f G => Q .normal f G))) : AW P N (.region id l.toArray true) Q f G := aw_region_fork σ i j τ1 τ2 hmx hd ho h
end
end Go.Proofs.YtomjghlaoncpbaaV
