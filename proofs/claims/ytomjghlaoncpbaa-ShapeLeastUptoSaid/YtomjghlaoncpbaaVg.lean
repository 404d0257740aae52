/-
  That 'qv' tells what the machine answers: the pieces.
-/
import Derived.Test.YtomjghlaoncpbaaVf
namespace Go.Proofs.YtomjghlaoncpbaaV
open Go.RowKit
set_option linter.unusedVariables false
set_option linter.unusedSimpArgs false

section
variable {P : Program} {E : Env} {M : PM} {G : Heap} {w : World} {f : FF} {a : Act}

theorem pickV_rep {t : Bool} {x y : V} {u v : Value} (hx : t = true → Rep M x u) (hy : t = false → Rep M y v) : Rep M (pickV t x y) (if t then u else v) := by
  unfold pickV
  split
  · cases t
    · obtain rfl := (hy rfl).bool_inv; exact .bool _
    · obtain rfl := (hx rfl).bool_inv; exact .bool _
  · cases t
    · exact hy rfl
    · exact hx rfl
theorem unopt_rep {x : V} {v : Value} (h : Rep M x v) : Rep M (unopt true x) v := by
  unfold unopt
  split
  · cases h with
    | optT y v h => simpa using h
    | optF y => simpa using Rep.optF _
  · exact h
theorem unF_rep {t : Array Value} (h : RepG M f t) : RepG M (unF true f) t := by
  intro i u hu
  simp only [unF, Option.map_eq_some_iff] at hu
  obtain ⟨x, h1, rfl⟩ := hu
  exact ⟨(h i x h1).1, unopt_rep (h i x h1).2⟩
theorem getD_rep {o : Operand} (hf : RepG M f a.tmps) : Rep M ((ev f o).getD .any) (a.eval o) := by
  cases h : ev f o with
  | none => exact .any _
  | some x => exact ev_rep hf h
theorem evL_rep (hf : RepG M f a.tmps) : ∀ {os : List Operand} {xs : List V}, evL f os = some xs → RepL M xs (os.map a.eval)
  | [], xs, h => by simp [evL] at h; subst h; exact RepL.nil
  | o :: os, xs, h => by
    simp only [evL] at h
    split at h
    · rename_i x ys h1 h2; cases h; exact RepL.cons (ev_rep hf h1) (evL_rep hf h2)
    · cases h
theorem RepL.func {fn : Fn} {xs ys : List V} {us vs : Array Value} (h1 : RepL M xs us.toList) (h2 : RepL M ys vs.toList) : Rep M (.func fn xs ys) (.func fn us vs) := by
  refine .func fn xs ys us vs (by have := h1.1; simp at this; exact this.symm) (by have := h2.1; simp at this; exact this.symm) (fun i hi => ?_) (fun i hi => ?_)
  · have := h1.2 i hi; rw [Array.getD_eq_getD_getElem?]; simpa [List.getD_eq_getElem?_getD] using this
  · have := h2.2 i hi; rw [Array.getD_eq_getD_getElem?]; simpa [List.getD_eq_getElem?_getD] using this

/-! ### literals -/
theorem setMany_rep : ∀ {xs : List V} {us : List Value} (hx : RepL M xs us) {cs : List V} {vs : Array Value} (off k : Nat), RepL M cs vs.toList →
    RepL M (setMany cs (off + k) xs) ((us.zipIdx k).foldl (fun cs (c, j) => cs.setIfInBounds (off + j) c) vs).toList
  | [], us, hx, cs, vs, off, k, h => by
    have : us = [] := List.eq_nil_of_length_eq_zero hx.1.symm
    subst this; exact h
  | x :: xs, [], hx, cs, vs, off, k, h => absurd hx.1 (by simp)
  | x :: xs, u :: us, hx, cs, vs, off, k, h => by
    simp only [setMany, List.zipIdx_cons, List.foldl_cons]
    have h' : RepL M (cs.set (off + k) x) (vs.setIfInBounds (off + k) u).toList := by
      simpa using h.set (off + k) hx.head
    exact setMany_rep hx.tail off (k + 1) h'
theorem setMany_length : ∀ (xs cs : List V) (off : Nat), (setMany cs off xs).length = cs.length
  | [], cs, off => rfl
  | x :: xs, cs, off => by simp [setMany, setMany_length xs]
theorem plainV_cells {x : V} {v : Value} (hp : plainV x = true) (h : Rep M x v) : RepL M (cellsV x) v.cells.toList :=
  h.cells (fun t e => by subst e; simp [plainV] at hp) (fun e => by subst e; simp [plainV] at hp) (fun b y e => by subst e; simp [plainV] at hp)
theorem fillC_rep {place : Nat → Option (Nat × Nat)} (hf : RepG M f a.tmps) : ∀ {ps : List (Nat × Operand)} {cs cs' : List V} {vs : Array Value}, fillC place f cs ps = some cs' → RepL M cs vs.toList →
    ∃ vs', Instr.fill place vs (ps.map fun (i, x) => (i, a.eval x)) = some vs' ∧ RepL M cs' vs'.toList
  | [], cs, cs', vs, h, hr => by simp [fillC] at h; subst h; exact ⟨vs, rfl, hr⟩
  | (i, o) :: ps, cs, cs', vs, h, hr => by
    simp only [fillC] at h
    split at h
    · rename_i off n x hp hx
      split at h
      · rename_i hc
        simp only [Bool.and_eq_true, decide_eq_true_eq] at hc
        obtain ⟨⟨hpl, hn⟩, hlen⟩ := hc
        have hxr := plainV_cells hpl (ev_rep hf hx)
        have hset := setMany_rep hxr off 0 hr
        rw [Nat.add_zero] at hset
        obtain ⟨vs', h1, h2⟩ := fillC_rep hf h hset
        refine ⟨vs', ?_, h2⟩
        have e1 : (a.eval o).cells.size = n := by have := hxr.1; rw [hn] at this; simpa using this.symm
        have e2 : cs.length = vs.size := by have := hr.1; simpa using this
        simp only [List.map_cons, Instr.fill, hp, e1]
        rw [if_neg (by simp; omega), ← h1]
        congr 1
        rw [← Array.foldl_toList]
        simp
      · cases h
    · cases h
theorem flatten_set : ∀ (es : List (List V)) (sz i : Nat) (c : List V), (∀ e ∈ es, e.length = sz) → c.length = sz → i < es.length → (es.set i c).flatten = setMany es.flatten (i * sz) c := by
  have aux : ∀ (c pre mid post : List V), mid.length = c.length → setMany (pre ++ (mid ++ post)) pre.length c = pre ++ (c ++ post) := by
    intro c
    induction c with
    | nil => intro pre mid post h; have : mid = [] := List.eq_nil_of_length_eq_zero h; subst this; rfl
    | cons x c ih =>
      intro pre mid post h
      match mid, h with
      | m :: mid, h =>
        have := ih (pre ++ [x]) mid post (by simpa using h)
        simp only [setMany, List.cons_append]
        rw [List.set_append_right _ _ (Nat.le_refl _), Nat.sub_self, List.set_cons_zero]
        simp only [List.append_assoc, List.singleton_append, List.length_append, List.length_singleton] at this
        exact this
  intro es
  induction es with
  | nil => intro sz i c _ _ hi; simp at hi
  | cons e es ih =>
    intro sz i c he hc hi
    cases i with
    | zero =>
      have := aux c [] e es.flatten (by rw [he e (by simp), hc])
      simpa using this.symm
    | succ i =>
      have hi' : i < es.length := by simpa using hi
      simp only [List.set_cons_succ, List.flatten_cons]
      rw [ih sz i c (fun e h => he e (by simp [h])) hc hi']
      have hel : e.length = sz := he e (by simp)
      have aux2 : ∀ (c cs : List V) (pre : List V) (k : Nat), setMany (pre ++ cs) (pre.length + k) c = pre ++ setMany cs k c := by
        intro c
        induction c with
        | nil => intro cs pre k; rfl
        | cons x c ih2 =>
          intro cs pre k
          simp only [setMany]
          rw [List.set_append_right _ _ (by omega), Nat.add_sub_cancel_left, Nat.add_assoc]
          exact ih2 _ _ _
      have := aux2 c es.flatten e (i * sz)
      rw [hel] at this
      rw [show (i + 1) * sz = sz + i * sz by rw [Nat.add_mul]; omega]
      exact this.symm
theorem fillE_rep {n : Nat} (hf : RepG M f a.tmps) : ∀ {ps : List (Nat × Operand)} {es es' : List (List V)} {vs : Array Value}, fillE n f es ps = some es' → (∀ e ∈ es, e.length = n) → RepL M es.flatten vs.toList →
    ∃ vs', Instr.fill (fun i => some (i * n, n)) vs (ps.map fun (i, x) => (i, a.eval x)) = some vs' ∧ RepL M es'.flatten vs'.toList ∧ (∀ e ∈ es', e.length = n) ∧ es'.length = es.length
  | [], es, es', vs, h, he, hr => by simp [fillE] at h; subst h; exact ⟨vs, rfl, hr, he, rfl⟩
  | (i, o) :: ps, es, es', vs, h, he, hr => by
    simp only [fillE] at h
    split at h
    · rename_i x hx
      split at h
      · rename_i hc
        simp only [Bool.and_eq_true, decide_eq_true_eq] at hc
        obtain ⟨⟨hpl, hn⟩, hlen⟩ := hc
        have hxr := plainV_cells hpl (ev_rep hf hx)
        have hset := setMany_rep hxr (i * n) 0 hr
        rw [Nat.add_zero, ← flatten_set es n i _ he hn hlen] at hset
        obtain ⟨vs', h1, h2, h3, h4⟩ := fillE_rep hf h (fun e hm => by
          rcases List.mem_or_eq_of_mem_set hm with q | q
          · exact he e q
          · rw [q]; exact hn) hset
        refine ⟨vs', ?_, h2, h3, by simpa using h4⟩
        have e1 : (a.eval o).cells.size = n := by have := hxr.1; rw [hn] at this; simpa using this.symm
        have e3 : es.flatten.length = es.length * n := by
          have : ∀ l : List (List V), (∀ e ∈ l, e.length = n) → l.flatten.length = l.length * n := by
            intro l
            induction l with
            | nil => intro _; simp
            | cons e l ih => intro hh; rw [List.flatten_cons, List.length_append, ih (fun e h => hh e (by simp [h])), hh e (by simp), List.length_cons, Nat.add_mul]; omega
          exact this es he
        have e2 : es.length * n = vs.size := by have := hr.1; rw [e3] at this; simpa using this
        have e4 : i * n + n ≤ es.length * n := by rw [← Nat.succ_mul]; exact Nat.mul_le_mul_right _ hlen
        simp only [List.map_cons, Instr.fill, e1]
        rw [if_neg (by simp; omega), ← h1]
        congr 1
        rw [← Array.foldl_toList]
        simp
      · cases h
    · cases h
end
end Go.Proofs.YtomjghlaoncpbaaV
