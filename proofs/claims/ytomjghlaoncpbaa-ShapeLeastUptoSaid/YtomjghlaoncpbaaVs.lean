/-
  Room beside other objects; a slice that was made and filled is, when nothing is written to it any more, a slice like any other.
-/
import Derived.Test.YtomjghlaoncpbaaVq
namespace Go.Proofs.YtomjghlaoncpbaaV
open Go.RowKit
set_option linter.unusedVariables false
set_option linter.unusedSimpArgs false
abbrev Sub (G H : Heap) : Prop := ∀ b o, hget G b = some o → hget H b = some o
theorem hget_cons_ne {k b : Nat} {o : AObj} {G : Heap} (h : ¬ k = b) : hget ((k, o) :: G) b = hget G b := by rw [hget_cons, if_neg h]
theorem none_cons {k b : Nat} {o : AObj} {G : Heap} (h : hget ((k, o) :: G) b = none) : ¬ k = b ∧ hget G b = none := by
  rw [hget_cons] at h
  split at h
  · cases h
  · exact ⟨by assumption, h⟩
theorem hset_ne {k b : Nat} {o x : AObj} {G : Heap} (h : ¬ k = b) : hset ((k, o) :: G) b x = (k, o) :: hset G b x := by rw [hset, if_neg h]
attribute [go_sem] hget_cons_ne hset_ne not_false_eq_true
theorem fresh_cons {k b : Nat} {o : AObj} {G : Heap} (h : hget ((k, o) :: G) b = none) : ¬ b = k ∧ hget G b = none := ⟨fun e => (none_cons h).1 e.symm, (none_cons h).2⟩
theorem sub_swap {a b : Nat} {x y : AObj} {G : Heap} (h : ¬ a = b) : Sub ((a, x) :: (b, y) :: G) ((b, y) :: (a, x) :: G) := by
  intro k o hk
  rw [hget_cons] at hk
  split at hk
  · rename_i e
    subst e
    rw [hget_cons_ne (fun e => h e.symm), hget_cons, if_pos rfl]; exact hk
  · rename_i e
    rw [hget_cons] at hk ⊢
    split at hk
    · rename_i e2; rw [if_pos e2]; exact hk
    · rename_i e2; rw [if_neg e2, hget_cons_ne e]; exact hk
theorem sub_tail {b : Nat} {x : AObj} {G : Heap} (h : hget G b = none) : Sub G ((b, x) :: G) := by
  intro k o hk
  rw [hget_cons_ne]
  · exact hk
  · intro e; subst e; rw [h] at hk; cases hk
theorem sub_fresh {b : Nat} {x : AObj} {G H : Heap} (h : hget G b = none) (hs : Sub G H) : Sub G ((b, x) :: H) := by
  intro k o hk
  rw [hget_cons_ne]
  · exact hs _ _ hk
  · intro e; subst e; rw [h] at hk; cases hk
theorem sub_rfl {G : Heap} : Sub G G := fun _ _ h => h
theorem hget_hset_ne {b k : Nat} {x : AObj} (hk : ¬ k = b) : ∀ {G : Heap}, hget (hset G b x) k = hget G k
  | [] => rfl
  | (j, u) :: G => by
    rw [hset]
    by_cases e : j = b
    · rw [if_pos e, hget_cons_ne (fun q => hk (q.symm.trans e)), hget_cons_ne (fun q => hk (q.symm.trans e))]
    · rw [if_neg e, hget_cons, hget_cons, hget_hset_ne hk]
theorem sub_hset {G H : Heap} {b : Nat} {x : AObj} (hs : Sub G H) : Sub (hset G b x) (hset H b x) := by
  intro k o h
  by_cases e : k = b
  · subst e
    cases hg : hget G k with
    | none =>
      rcases hget_hset h with ⟨_, rfl⟩ | ⟨h1, _⟩
      · exfalso
        have : ∀ {G : Heap}, hget G k = none → hget (hset G k o) k = none := by
          intro G
          induction G with
          | nil => intro _; rfl
          | cons p G ih =>
            intro hn
            obtain ⟨j, u⟩ := p
            obtain ⟨n1, n2⟩ := none_cons hn
            rw [hset, if_neg n1, hget_cons_ne n1]
            exact ih n2
        rw [this hg] at h; cases h
      · exact absurd rfl h1
    | some u =>
      rw [hget_hset_self hg] at h
      rw [hget_hset_self (hs _ _ hg)]; exact h
  · rw [hget_hset_ne e] at h ⊢; exact hs _ _ h
theorem sub_hset_fresh {G H : Heap} {b : Nat} {x : AObj} (h : hget G b = none) (hs : Sub G H) : Sub G (hset H b x) := by
  intro k o hk
  rw [hget_hset_ne]
  · exact hs _ _ hk
  · intro e; subst e; rw [h] at hk; cases hk
theorem sub_none {G H : Heap} {b : Nat} (h : Sub G H) (hb : hget H b = none) : hget G b = none := by
  cases hg : hget G b with
  | none => rfl
  | some o => rw [h _ _ hg] at hb; cases hb
theorem sub_trans {A B C : Heap} (h : Sub A B) (k : Sub B C) : Sub A C := fun b o x => k b o (h b o x)
theorem sub_both {b : Nat} {x : AObj} {G H : Heap} (h : Sub G H) : Sub ((b, x) :: G) ((b, x) :: H) := by
  intro k o hk
  rw [hget_cons] at hk ⊢
  split at hk
  · rename_i e; rw [if_pos e]; exact hk
  · rename_i e; rw [if_neg e]; exact h _ _ hk
/-- Another object is there. -/
theorem Room.push {G H : Heap} {n : Nat} {t : Tag} {b : Nat} {o : AObj} (h : Room G n t H) (hb : hget H b = none) : ∃ H2, Room ((b, o) :: G) n t H2 ∧ Sub H2 ((b, o) :: H) := by
  rcases h with ⟨rfl, rfl⟩ | ⟨b1, e, c, rfl, hn, rfl⟩
  · exact ⟨_, .inl ⟨rfl, rfl⟩, fun _ _ h => h⟩
  · obtain ⟨h1, h2⟩ := none_cons hb
    exact ⟨(b1, .top e c) :: (b, o) :: G, .inr ⟨b1, e, c, rfl, by rw [hget_cons_ne (fun e => h1 e.symm)]; exact hn, rfl⟩, sub_swap h1⟩
/-- And no more. -/
theorem Room.pop {G H : Heap} {n : Nat} {t : Tag} {b : Nat} {o : AObj} (h : Room ((b, o) :: G) n t H) (hb : hget G b = none) : ∃ H2, Room G n t H2 ∧ Sub H2 H := by
  rcases h with ⟨rfl, rfl⟩ | ⟨b1, e, c, rfl, hn, rfl⟩
  · exact ⟨_, .inl ⟨rfl, rfl⟩, sub_tail hb⟩
  · obtain ⟨h1, h2⟩ := none_cons hn
    exact ⟨(b1, .top e c) :: G, .inr ⟨b1, e, c, rfl, h2, rfl⟩, sub_both (sub_tail hb)⟩

theorem Room.sub_none {G H : Heap} {n : Nat} {t : Tag} {b : Nat} (h : Room G n t H) (hb : hget H b = none) : hget G b = none := by
  cases hg : hget G b with
  | none => rfl
  | some o => rw [h.sub _ _ hg] at hb; cases hb

/-- The variable beside the room is written. -/
theorem Room.put {G H : Heap} {n : Nat} {t : Tag} {b : Nat} {o x : AObj} (h : Room ((b, o) :: G) n t H) : Room ((b, x) :: G) n t (hset H b x) := by
  rcases h with ⟨rfl, rfl⟩ | ⟨b1, e, c, rfl, hn, rfl⟩
  · exact .inl ⟨rfl, by simp [hset]⟩
  · obtain ⟨h1, h2⟩ := none_cons hn
    refine .inr ⟨b1, e, c, rfl, ?_, ?_⟩
    · rw [hget_cons_ne h1]; exact h2
    · have : ¬ b1 = b := fun e => h1 e.symm
      simp [hset, this]
/-- A call that leaves a heap as it was, if that heap knows what H0 knows, and answers x. -/
def QuietOn (P : Program) (H0 : Heap) (g : FuncId) (args : List V) (x : V) : Prop := ∀ G, Sub H0 G → ACall P g args (fun y G' => y = x ∧ G' = G) G
theorem Quiet.on {P : Program} {H0 : Heap} {g : FuncId} {args : List V} {x : V} (h : Quiet P g args x) : QuietOn P H0 g args x := fun G _ => h G
theorem QuietOn.weak {P : Program} {H0 : Heap} {g : FuncId} {args : List V} {x : V} (h : ∀ G, Sub H0 G → ACall P g args (fun y G' => Vle y x ∧ Sub G G') G) : QuietOn P H0 g args x :=
  fun G hs => ACall.weak ((h G hs).mono fun y G' ⟨h1, h2⟩ => ⟨x, G, h1, h2, rfl, rfl⟩)
theorem QuietOn.mono {P : Program} {H0 H1 : Heap} {g : FuncId} {args : List V} {x : V} (h : QuietOn P H0 g args x) (hs : Sub H0 H1) : QuietOn P H1 g args x := fun G h1 => h G fun b o k => h1 b o (hs b o k)
section
variable {P : Program} {ops : List Oper} {d : Option Tmp} {r : Rest} {f : Frame} {G H0 : Heap} {K : Kf}
theorem goA_on {g : FuncId} {xs : List V} {x : V} (h : QuietOn P H0 g xs x) (hs : Sub H0 G) (hk : go P ops r (fput f d x) G K) : goA P ops g xs d r f G K :=
  (h G hs).mono fun y G' ⟨h1, h2⟩ => by subst h1; subst h2; exact hk
theorem goH_on {n : FuncId} {xs : List V} {g : Bool} {x : V} (h : g = true → QuietOn P H0 n xs x) (hs : Sub H0 G) (hk : go P ops r (fput f d (.opt g x)) G K) : goH P ops n xs g d r f G K :=
  ⟨fun e => (h e G hs).mono fun y G' ⟨h1, h2⟩ => by subst h1; subst h2; exact hk, fun e => ⟨x, hk⟩⟩
end
theorem sub_one {b : Nat} {o : AObj} {G : Heap} (h : hget G b = some o) : Sub [(b, o)] G := by
  intro b' o' hk
  rw [hget_cons] at hk
  split at hk
  · rename_i e; subst e; cases hk; exact h
  · cases hk

/-- Cell by cell weaker. -/
inductive VleL : List V → List V → Prop
  | nil : VleL [] []
  | cons {x y : V} {xs ys : List V} (h : Vle x y) (hs : VleL xs ys) : VleL (x :: xs) (y :: ys)
theorem VleL.rep {xs ys : List V} (h : VleL xs ys) : ∀ {M : PM} {vs : List Value}, RepL M xs vs → RepL M ys vs := by
  induction h with
  | nil => exact fun h => h
  | cons h hs ih =>
    intro M vs hr
    cases vs with
    | nil => exact absurd hr.1 (by simp)
    | cons v vs => exact RepL.cons (h _ _ hr.head) (ih hr.tail)
theorem Vle.aggL {xs ys : List V} (h : VleL xs ys) : Vle (.agg xs) (.agg ys) := fun M v hr => by
  obtain ⟨vs, rfl, hl⟩ := hr.agg_inv
  have := (h.rep hl).agg
  simpa using this
theorem Vle.tupL {xs ys : List V} (h : VleL xs ys) : Vle (.tup xs) (.tup ys) := fun M v hr => by
  obtain ⟨vs, rfl, hl⟩ := hr.tup_inv
  have := (h.rep hl).tup
  simpa using this
theorem VleL.refl : ∀ xs : List V, VleL xs xs
  | [] => .nil
  | x :: xs => .cons (Vle.refl x) (VleL.refl xs)

theorem VleL.at {xs ys : List V} (h : VleL xs ys) : xs.length = ys.length ∧ ∀ i (h1 : i < xs.length) (h2 : i < ys.length), Vle xs[i] ys[i] := by
  induction h with
  | nil => exact ⟨rfl, fun i h1 => absurd h1 (by simp)⟩
  | cons h hs ih =>
    refine ⟨by simp [ih.1], fun i h1 h2 => ?_⟩
    cases i with
    | zero => exact h
    | succ i => exact ih.2 i (by simpa using h1) (by simpa using h2)
inductive VleLL : List (List V) → List (List V) → Prop
  | nil : VleLL [] []
  | cons {x y : List V} {xs ys : List (List V)} (h : VleL x y) (hs : VleLL xs ys) : VleLL (x :: xs) (y :: ys)
theorem VleLL.at {xs ys : List (List V)} (h : VleLL xs ys) : xs.length = ys.length ∧ ∀ i (h1 : i < xs.length) (h2 : i < ys.length), VleL xs[i] ys[i] := by
  induction h with
  | nil => exact ⟨rfl, fun i h1 => absurd h1 (by simp)⟩
  | cons h hs ih =>
    refine ⟨by simp [ih.1], fun i h1 h2 => ?_⟩
    cases i with
    | zero => exact h
    | succ i => exact ih.2 i (by simpa using h1) (by simpa using h2)
/-- A slice whose elements are weaker. -/
theorem Vle.slE {es fs : List (List V)} {nl : Bool} {t : Tag} (h : VleLL es fs) : Vle (.sl es nl t) (.sl fs nl .no) := fun M v hr => by
  obtain ⟨hl0, hh⟩ := h.at
  cases hr with
  | sl es nl t a len cap sz g hl hc hn hz hs he hm hr ht =>
    refine .sl fs nl .no a len cap sz g (by omega) hc hn hz hs (fun i hi => ?_) (fun ad h i hi => hm ad h i (by omega)) (fun i hi j hj => ?_) trivial
    · rw [← (hh i (by omega) hi).at.1]; exact he i (by omega)
    · obtain ⟨e1, e2⟩ := (hh i (by omega) hi).at
      exact e2 j (by omega) hj _ _ (hr i (by omega) j (by omega))
/-- Weaker arguments. -/
theorem ACall.args {P : Program} {g : FuncId} {xs ys : List V} {Q : V → Heap → Prop} {G : Heap} (h : ACall P g ys Q G) (hl : VleL xs ys) : ACall P g xs Q G :=
  fun E M w vs hm hr => h E M w vs hm (hl.rep hr)
theorem Quiet.args {P : Program} {g : FuncId} {xs ys : List V} {x : V} (h : Quiet P g ys x) (hl : VleL xs ys) : Quiet P g xs x := fun G => (h G).args hl

theorem Room.base {B B' H : Heap} {n : Nat} {t : Tag} (h : Room B n t H) (hs : Sub B' B) : ∃ H', Room B' n t H' ∧ Sub H' H := by
  rcases h with ⟨rfl, rfl⟩ | ⟨b1, e, c, rfl, hn, rfl⟩
  · exact ⟨B', .inl ⟨rfl, rfl⟩, hs⟩
  · exact ⟨(b1, .top e c) :: B', .inr ⟨b1, e, c, rfl, Go.Proofs.YtomjghlaoncpbaaV.sub_none hs hn, rfl⟩, sub_both hs⟩
/-- In a heap stands a variable of one slice of n-celled elements, which may be appended to; and all of base. -/
def WOk (base : Heap) (b n : Nat) (es : List (List V)) (G : Heap) : Prop := hget base b = none ∧ ∃ nl t H, (nl = true → es = []) ∧ Room ((b, .vars [.sl es nl t]) :: base) n t H ∧ Sub H G
theorem WOk.sub {base : Heap} {b n : Nat} {es : List (List V)} {G G' : Heap} (h : WOk base b n es G) (hs : Sub G G') : WOk base b n es G' := by
  obtain ⟨h0, nl, t, H, hnl, h1, h2⟩ := h
  exact ⟨h0, nl, t, H, hnl, h1, sub_trans h2 hs⟩
/-- Another object stands beside it. -/
theorem WOk.push {base : Heap} {b n : Nat} {es : List (List V)} {G : Heap} (h : WOk base b n es G) {b2 : Nat} {o : AObj} (hb : hget G b2 = none) : WOk ((b2, o) :: base) b n es ((b2, o) :: G) := by
  obtain ⟨h0, nl, t, H, hnl, h1, h2⟩ := h
  have hbH := Go.Proofs.YtomjghlaoncpbaaV.sub_none h2 hb
  have hbb := h1.sub_none hbH
  obtain ⟨n1, n2⟩ := fresh_cons hbb
  obtain ⟨H2, h3, h4⟩ := h1.push (o := o) hbH
  obtain ⟨H3, h5, h6⟩ := h3.base (B' := (b, .vars [.sl es nl t]) :: (b2, o) :: base) (sub_swap (fun e => n1 e.symm))
  exact ⟨by rw [hget_cons_ne n1]; exact h0, nl, t, H3, hnl, h5, sub_trans h6 (sub_trans h4 (sub_both h2))⟩
theorem WOk.base {base base' : Heap} {b n : Nat} {es : List (List V)} {G : Heap} (h : WOk base b n es G) (hs : Sub base' base) : WOk base' b n es G := by
  obtain ⟨h0, nl, t, H, hnl, h1, h2⟩ := h
  obtain ⟨H2, h3, h4⟩ := h1.base (sub_both hs)
  exact ⟨Go.Proofs.YtomjghlaoncpbaaV.sub_none hs h0, nl, t, H2, hnl, h3, sub_trans h4 h2⟩
theorem WOk.old {base : Heap} {b n : Nat} {es : List (List V)} {G : Heap} (h : WOk base b n es G) : Sub base G := by
  obtain ⟨h0, nl, t, H, hnl, h1, h2⟩ := h
  exact sub_trans (sub_trans (sub_tail h0) h1.sub) h2

/-! ### an answer may be turned -/
def Turn (x : V) (G : Heap) (y : V) (G2 : Heap) : Prop := ∀ E M w v, Mem E M G w → Rep M x v → ∃ M', M.le M' ∧ Mem E M' G2 w ∧ Rep M' y v
theorem ACall.turn {P : Program} {g : FuncId} {args : List V} {Q : V → Heap → Prop} {G : Heap} (h : ACall P g args (fun x G' => ∃ y G2, Turn x G' y G2 ∧ Q y G2) G) : ACall P g args Q G :=
  fun E M w vs hm hr => (h E M w vs hm hr).mono fun v w' ⟨M', G', x, h1, h2, h3, y, G2, h4, h5⟩ => by
    obtain ⟨M2, k1, k2, k3⟩ := h4 E M' w' v h2 h3
    exact ⟨M2, G2, y, PM.le_trans h1 k1, k2, k3, h5⟩
/-- Which block's slice is turned, where it stands. -/
inductive Fz (b n c : Nat) (es : List (List V)) : V → V → Prop
  | same (x : V) : Fz b n c es x x
  | ms (t : Tag) (ht : t = .no) : Fz b n c es (.ms b 0 n c) (.sl es false t)
  | agg (xs ys : List V) (hl : xs.length = ys.length) (h : ∀ i (hi : i < xs.length), Fz b n c es xs[i] (ys.getD i .any)) : Fz b n c es (.agg xs) (.agg ys)
  | tup (xs ys : List V) (hl : xs.length = ys.length) (h : ∀ i (hi : i < xs.length), Fz b n c es xs[i] (ys.getD i .any)) : Fz b n c es (.tup xs) (.tup ys)
theorem Fz.rep {M M' : PM} {b n c : Nat} {es : List (List V)} (hM : M.le M') (hs : ∀ v, Rep M (.ms b 0 n c) v → Rep M' (.sl es false .no) v) {x y : V} (h : Fz b n c es x y) : ∀ {v : Value}, Rep M x v → Rep M' y v := by
  induction h with
  | same x => exact fun hr => hr.mono hM
  | ms t ht => subst ht; exact fun hr => hs _ hr
  | agg xs ys hl h ih =>
    intro v hr
    cases hr with
    | agg _ vs h1 r =>
      refine .agg ys vs (by omega) fun i hi => ?_
      have := ih i (by omega) (r i (by omega))
      rw [List.getD_eq_getElem?_getD, List.getElem?_eq_getElem hi] at this
      exact this
  | tup xs ys hl h ih =>
    intro v hr
    cases hr with
    | tup _ vs h1 r =>
      refine .tup ys vs (by omega) fun i hi => ?_
      have := ih i (by omega) (r i (by omega))
      rw [List.getD_eq_getElem?_getD, List.getElem?_eq_getElem hi] at this
      exact this
theorem turn_ms {G : Heap} {b n c sz : Nat} {es : List (List V)} {x y : V} (hb : hget G b = none) (hn : es.length = n) (hw : wid sz es) (h : Fz b n c es x y) : Turn x ((b, .vars es.flatten) :: G) y G := by
  intro E M w v hm hr
  obtain ⟨hB, arr, T, fr, h1, h2, h3, h4, h5⟩ := hm.obj b _ (hget_self b _ G)
  let M' : PM := fun b' o => if b' = b then (if o < es.flatten.length then arr[o]? else none) else M b' o
  have hM : M.le M' := fun b' o v hv => by
    show (if b' = b then _ else _) = _
    rw [if_neg]
    · exact hv
    · intro e; subst e; rw [h5 o] at hv; cases hv
  have hself : ∀ o, o < es.flatten.length → M' b o = some (arr.getD o undef) := fun o ho => by
    show (if b = b then _ else _) = _
    rw [if_pos rfl, if_pos ho, Array.getD_eq_getD_getElem?, Array.getElem?_eq_getElem (by omega)]; rfl
  have hmem : Mem E M' G w := by
    refine ⟨hm.below, hm.base, fun b' o v hv => ?_, fun b' ob hob => ?_⟩
    · by_cases e : b' = b
      · subst e
        have hv : (if b' = b' then (if o < es.flatten.length then arr[o]? else none) else M b' o) = some v := hv
        rw [if_pos rfl] at hv
        split at hv
        · simp only [World.cell?, h1]; simpa using hv
        · cases hv
      · have hv : (if b' = b then (if o < es.flatten.length then arr[o]? else none) else M b' o) = some v := hv
        rw [if_neg e] at hv
        exact hm.pm _ _ _ hv
    · have hne : ¬ b = b' := by intro e; subst e; rw [hb] at hob; cases hob
      obtain ⟨g1, g2⟩ := hm.obj b' ob (by rw [hget_cons_ne hne]; exact hob)
      refine ⟨g1, g2.grow hM fun i => ?_⟩
      show (if b' = b then _ else _) = _
      rw [if_neg (fun e => hne e.symm)]
  refine ⟨M', hM, hmem, h.rep hM (fun u hu => ?_) hr⟩
  obtain ⟨rfl, hc⟩ := hu.ms_inv
  have hl : RepL M' es.flatten ((List.range es.flatten.length).map fun i => arr.getD i undef) := by
    refine ⟨by simp, fun i hi => ?_⟩
    rw [List.getD_eq_getElem?_getD, List.getElem?_map, List.getElem?_range hi]
    exact (h3 i hi).mono hM
  have := rep_sl_of_flat (M := M') (b := b) (z := 0) (cap := c) (t := .no) hl hw (fun i v hv => by
    have hi : i < es.flatten.length := by
      rcases Nat.lt_or_ge i es.flatten.length with q | q
      · exact q
      · rw [List.getElem?_eq_none (by simpa using q)] at hv; cases hv
    rw [List.getElem?_map, List.getElem?_range hi] at hv
    cases hv
    rw [Nat.zero_add]
    exact hself i hi) (by omega) trivial
  rw [hn] at this
  exact this
theorem Turn.refl (x : V) (G : Heap) : Turn x G x G := fun E M w v hm hr => ⟨M, M.le_refl, hm, hr⟩
theorem Turn.sub {x y : V} {G G0 G2 : Heap} (h : Turn x G y G2) (hs : Sub G G0) : Turn x G0 y G2 := fun E M w v hm hr => h E M w v (hm.sub hs) hr
theorem Quiet.turn {P : Program} {g : FuncId} {args : List V} {x : V} (h : ∀ G, ACall P g args (fun y0 G0 => ∃ y G2, Turn y0 G0 y G2 ∧ Vle y x ∧ Sub G G2) G) : Quiet P g args x :=
  Quiet.weak fun G => (h G).turn
theorem VleL.append {a b c d : List V} (h : VleL a c) (k : VleL b d) : VleL (a ++ b) (c ++ d) := by
  induction h with
  | nil => exact k
  | cons h hs ih => exact .cons h ih
theorem VleL.flat {es fs : List (List V)} (h : VleLL es fs) : VleL es.flatten fs.flatten := by
  induction h with
  | nil => exact .nil
  | cons h hs ih => exact h.append ih
theorem VleLL.replicate {x y : List V} (h : VleL x y) : ∀ n, VleLL (List.replicate n x) (List.replicate n y)
  | 0 => .nil
  | n + 1 => .cons h (VleLL.replicate h n)
/-- Of a variable less is known. -/
theorem AW.vars_weak {P : Program} {N : Nat} {Q : Cont} {f : Frame} {G : Heap} {c : Code} {b : Nat} {cs ds : List V} (hl : VleL cs ds) (h : AW P N c Q f ((b, .vars ds) :: G)) : AW P N c Q f ((b, .vars cs) :: G) := by
  intro E M w a hm hr hn hd
  refine h E M w a ⟨hm.below, hm.base, hm.pm, fun b' o ho => ?_⟩ hr hn hd
  rw [hget_cons] at ho
  split at ho
  · rename_i e
    subst e
    cases ho
    obtain ⟨g1, arr, T, fr, h1, h2, h3, h4, h5⟩ := hm.obj b _ (hget_self b _ G)
    obtain ⟨e1, e2⟩ := hl.at
    exact ⟨g1, arr, T, fr, h1, by omega, fun i hi => e2 i (by omega) hi _ _ (h3 i (by omega)), by rw [← e1]; exact h4, h5⟩
  · rename_i e
    exact hm.obj b' o (by rw [hget_cons_ne e]; exact ho)
theorem setMany_append : ∀ (c a b d : List V), b.length = c.length → setMany (a ++ (b ++ d)) a.length c = a ++ (c ++ d)
  | [], a, b, d, h => by
    have : b = [] := List.eq_nil_of_length_eq_zero h
    subst this; rfl
  | x :: xs, a, [], d, h => by simp at h
  | x :: xs, a, y :: ys, d, h => by
    have ih := setMany_append xs (a ++ [x]) ys d (by simpa using h)
    rw [setMany]
    have e : (a ++ (y :: ys ++ d)).set a.length x = a ++ [x] ++ (ys ++ d) := by simp
    rw [e]
    have e2 : a.length + 1 = (a ++ [x]).length := by simp
    rw [e2, ih]
    simp
theorem setMany_flatten {k n : Nat} {es : List (List V)} {c : List V} (hw : wid k es) (hc : c.length = k) (hn : n < es.length) : setMany es.flatten (n * k) c = (es.set n c).flatten := by
  have h1 : es.flatten = (es.take n).flatten ++ (es[n] ++ (es.drop (n + 1)).flatten) := by
    have e : es = es.take n ++ (es[n] :: es.drop (n + 1)) := by rw [← List.drop_eq_getElem_cons hn, List.take_append_drop]
    have e2 := congrArg List.flatten e
    rw [List.flatten_append, List.flatten_cons] at e2
    exact e2
  have h2 : (es.take n).flatten.length = n * k := by
    rw [flatten_length (n := k) (wid_take hw n), List.length_take, Nat.min_eq_left (by omega)]
  have h3 : (es.set n c).flatten = (es.take n).flatten ++ (c ++ (es.drop (n + 1)).flatten) := by
    rw [List.set_eq_take_append_cons_drop, if_pos hn]
    simp
  rw [h1, ← h2, setMany_append c _ _ _ (by rw [hc]; exact hw _ (List.getElem_mem hn)), h3]
theorem map_range_set {A : Type} (n i : Nat) (g : Nat → A) (x : A) : ((List.range n).map g).set i x = (List.range n).map fun j => if j = i then x else g j := by
  apply List.ext_getElem
  · simp
  · intro j h1 h2
    rw [List.getElem_set]
    simp only [List.getElem_map, List.getElem_range]
    by_cases e : i = j
    · rw [if_pos e, if_pos e.symm]
    · rw [if_neg e, if_neg (fun q => e q.symm)]
end Go.Proofs.YtomjghlaoncpbaaV
