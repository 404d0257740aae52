/-
  Loops over the numbers below n, as 'range' makes them.
-/
import Derived.Test.YtomjghlaoncpbaaVn
namespace Go.Proofs.YtomjghlaoncpbaaV
open Go.RowKit
set_option linter.unusedVariables false
set_option linter.unusedSimpArgs false

theorem wrap64 {n : Int} (h1 : -9223372036854775808 ≤ n) (h2 : n ≤ 9223372036854775807) : IntKind.i64.wrap n = n := by
  unfold IntKind.wrap; simp only [IntKind.bits, IntKind.signed]; simp; omega
/-- What a loop's body owes its ends: the next round (next), the code behind the loop (done). -/
def rangeK (A B : Nat) (next done : Frame → Heap → Prop) (Q : Cont) : Cont
  | .normal, f, G => next f G
  | .exit id, f, G => if id = B then next f G else if id = A then done f G else Q (.exit id) f G
  | e, f, G => Q e f G
theorem rangeK_next {A B : Nat} {next done : Frame → Heap → Prop} {Q : Cont} {f : Frame} {G : Heap} (h : next f G) : rangeK A B next done Q .normal f G := h
theorem rangeK_cont {A B : Nat} {next done : Frame → Heap → Prop} {Q : Cont} {f : Frame} {G : Heap} (h : next f G) : rangeK A B next done Q (.exit B) f G := by simp [rangeK, h]
theorem rangeK_break {A B : Nat} {next done : Frame → Heap → Prop} {Q : Cont} {f : Frame} {G : Heap} (hn : A ≠ B) (h : done f G) : rangeK A B next done Q (.exit A) f G := by simp [rangeK, hn, h]
theorem FSub.put {g f : Frame} (h : FSub g f) {i j : Nat} {x y : V} (hk : g.all (fun p => p.1 != i && p.1 != j) = true) : FSub g ((i, x) :: (j, y) :: f) := by
  induction g with
  | nil => trivial
  | cons p g ih =>
    obtain ⟨k, v⟩ := p
    simp only [List.all_cons, Bool.and_eq_true, bne_iff_ne, ne_eq] at hk
    refine ⟨?_, ih h.2 (by simpa using hk.2)⟩
    rw [fget, if_neg (Ne.symm hk.1.1), fget, if_neg (Ne.symm hk.1.2)]
    exact h.1
theorem FSub.put1 {g f : Frame} (h : FSub g f) {i : Nat} {x : V} (hk : g.all (fun p => p.1 != i) = true) : FSub g ((i, x) :: f) := by
  induction g with
  | nil => trivial
  | cons p g ih =>
    obtain ⟨k, v⟩ := p
    simp only [List.all_cons, Bool.and_eq_true, bne_iff_ne, ne_eq] at hk
    refine ⟨?_, ih h.2 (by simpa using hk.2)⟩
    rw [fget, if_neg (Ne.symm hk.1)]
    exact h.1
theorem FSub.refl' {g f : Frame} (h : ∀ i v, fget g i = some v → fget f i = some v) (hn : (g.map (·.1)).Nodup) : FSub g f := by
  induction g with
  | nil => trivial
  | cons p g ih =>
    obtain ⟨k, v⟩ := p
    simp only [List.map_cons, List.nodup_cons] at hn
    refine ⟨h k v (by rw [fget, if_pos rfl]), ih (fun i u hi => h i u ?_) hn.2⟩
    rw [fget]
    split
    · rename_i e; subst e
      exfalso
      apply hn.1
      clear ih h hn
      induction g with
      | nil => cases hi
      | cons q g ih =>
        obtain ⟨j, z⟩ := q
        rw [fget] at hi
        split at hi
        · rename_i e; subst e; simp
        · exact List.mem_cons_of_mem _ (ih hi)
    · exact hi
section
variable {P : Program} {N : Nat} {Q : Cont} {f : Frame} {G : Heap}
/-- A loop over 0 … n-1. F i s, H i s: what is kept at the head of round i (but the counter and n); I: what holds there. -/
theorem aw_range {A B tI tN c tJ r1 r2 : Nat} {it t1 t2 t3 t4 t5 : TypeId} {p1 p2 p3 : String} {a1 a2 a3 : Array Edge} {y : Code} (n : Nat) {S : Type} (F : Nat → S → Frame) (H : Nat → S → Heap) (I : Nat → S → Prop) (s0 : S)
    (hn : (n : Int) ≤ 9223372036854775807)
    (hF : FSub ((tI, .int .i64 0) :: (tN, .int .i64 n) :: F 0 s0) f) (hG : ∀ b o, hget (H 0 s0) b = some o → hget G b = some o) (h0 : I 0 s0)
    (hk : (tN != tI && tN != tJ && (c < N) && (tI < N) && (tJ < N)) = true) (hk2 : ∀ i s, (F i s).all (fun p => p.1 != tI && p.1 != tJ) = true)
    (round : ∀ i s, i < n → I i s → AW P N y (rangeK A B (fun f' G' => ∃ s', I (i + 1) s' ∧ FSub ((tI, .int .i64 i) :: (tN, .int .i64 n) :: F (i + 1) s') f' ∧ ∀ b o, hget (H (i + 1) s') b = some o → hget G' b = some o) (fun f' G' => Q .normal f' G') Q) ((c, .bool true) :: (tI, .int .i64 i) :: (tN, .int .i64 n) :: F i s) (H i s))
    (last : ∀ s, I n s → Q .normal ((c, .bool false) :: (tI, .int .i64 n) :: (tN, .int .i64 n) :: F n s) (H n s)) (hAB : A ≠ B) :
    AW P N (.block A (.loop (.seq (.region r1 [⟨some c, .binOp .lss it (.tmp tI) (.tmp tN) t1, t2, p1, a1, none⟩].toArray false) (.seq (.cond (.tmp c) .skip (.exit A)) (.seq (.block B y) (.region r2 [⟨some tJ, .binOp .add t5 (.tmp tI) (.const (.int .i64 1)) t3, t4, p2, a2, none⟩, ⟨some tI, .move (.tmp tJ), t4, p3, a3, none⟩].toArray false)))))) Q f G := by
  simp only [Bool.and_eq_true, bne_iff_ne, ne_eq, decide_eq_true_eq] at hk
  obtain ⟨⟨⟨⟨k1, k2⟩, k3⟩, k4⟩, k5⟩ := hk
  refine aw_block ?_
  refine aw_lph (S := {p : Nat × S // p.1 ≤ n ∧ I p.1 p.2}) (fun p => (tI, .int .i64 p.1.1) :: (tN, .int .i64 n) :: F p.1.1 p.1.2) (fun p => H p.1.1 p.1.2) (fun p => n - p.1.1) ⟨(0, s0), Nat.zero_le _, h0⟩ hF hG ?_
  intro ⟨⟨i, s⟩, hi, hI⟩
  simp only at hi hI ⊢
  refine aw_sr (by simp [dstOk, k3]) ?_
  have hNI : ¬ (tI = tN) := fun e => k1 e.symm
  simp only [go_sem, reduceIte, hNI, Int.ofNat_lt]
  refine aw_seq fun K hK => ?_
  refine aw_if (b := decide (i < n)) (by rw [fget, if_pos rfl]) (fun h => ?_) (fun h => ?_)
  · refine aw_skip (hK _ _ ?_)
    have hlt : i < n := by simpa using h
    rw [h]
    refine aw_mid (fun f' G' => ∃ s', I (i + 1) s' ∧ FSub ((tI, .int .i64 i) :: (tN, .int .i64 n) :: F (i + 1) s') f' ∧ ∀ b o, hget (H (i + 1) s') b = some o → hget G' b = some o) ?_ ?_
    · refine aw_block ((round i s hlt hI).mono fun e f' G' he => ?_)
      cases e with
      | normal => exact he
      | exit id =>
        simp only [rangeK] at he
        by_cases e1 : id = B
        · rw [if_pos e1] at he; subst e1; simp only [inBlockK, if_true]; exact he
        · rw [if_neg e1] at he
          by_cases e2 : id = A
          · rw [if_pos e2] at he; subst e2; simp only [inBlockK, if_neg e1, thenK, if_true]; exact he
          · rw [if_neg e2] at he; simp only [inBlockK, if_neg e1, thenK, if_neg e2]; exact he
      | ret => exact he
      | goto l => exact he
      | panic ch => exact he
      | outgrown => exact he
    · intro f' G' ⟨s', g1, g2, g3⟩
      refine aw_rg (by simp [dstOk, k4, k5]) ?_
      have g2' := g2.1
      have hw : IntKind.i64.wrap ((i : Int) + 1) = ((i + 1 : Nat) : Int) := by rw [wrap64 (by omega) (by omega)]; rfl
      simp only [go_sem, reduceIte, g2', hw]
      refine ⟨⟨(i + 1, s'), by simp only; omega, g1⟩, by simp only; omega, ⟨by rw [fget, if_pos rfl], ?_⟩, g3⟩
      refine FSub.put (g := (tN, .int .i64 n) :: F (i + 1) s') g2.2 ?_
      simp only [List.all_cons, Bool.and_eq_true, bne_iff_ne, ne_eq]
      exact ⟨⟨k1, k2⟩, hk2 _ _⟩
  · have hge : i = n := by have : ¬ i < n := by simpa using h
                           omega
    subst hge
    rw [h]
    refine aw_exit ?_
    have := last s hI
    simp only [thenK, inBlockK, if_true]
    exact this
end
end Go.Proofs.YtomjghlaoncpbaaV
