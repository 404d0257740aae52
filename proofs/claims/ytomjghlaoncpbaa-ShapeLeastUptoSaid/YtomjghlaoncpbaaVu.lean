/-
  Variables that a call has just made: named, and the heap behind them as one heap.
-/
import Derived.Test.YtomjghlaoncpbaaVt
namespace Go.Proofs.YtomjghlaoncpbaaV
set_option linter.unusedVariables false
section
variable {P : Program} {N : Nat} {Q : Cont} {f : Frame} {G : Heap} {c : Code}
theorem aw_box1 {a : Nat} {X : AObj} (ha : hget G a = none) (h : ∀ B, Sub G B → hget B a = some X → AW P N c Q f B) : AW P N c Q f ((a, X) :: G) :=
  h _ (sub_tail ha) (hget_self _ _ _)
theorem aw_box2 {a b : Nat} {X Y : AObj} (ha : hget G a = none) (hb : hget ((a, X) :: G) b = none) (h : ∀ B, Sub G B → hget B a = some X → hget B b = some Y → ¬ a = b → ¬ b = a → AW P N c Q f B) : AW P N c Q f ((b, Y) :: (a, X) :: G) := by
  obtain ⟨n1, hb'⟩ := fresh_cons hb
  exact h _ (sub_fresh hb' (sub_tail ha)) (by rw [hget_cons_ne n1, hget_self]) (hget_self _ _ _) (fun e => n1 e.symm) n1
theorem aw_box3 {a b c' : Nat} {X Y Z : AObj} (ha : hget G a = none) (hb : hget ((a, X) :: G) b = none) (hc : hget ((b, Y) :: (a, X) :: G) c' = none)
    (h : ∀ B, Sub G B → hget B a = some X → hget B b = some Y → hget B c' = some Z → ¬ a = b → ¬ b = a → ¬ a = c' → ¬ c' = a → ¬ b = c' → ¬ c' = b → AW P N c Q f B) : AW P N c Q f ((c', Z) :: (b, Y) :: (a, X) :: G) := by
  obtain ⟨n1, hb'⟩ := fresh_cons hb
  obtain ⟨n2, hc'⟩ := fresh_cons hc
  obtain ⟨n3, hc''⟩ := fresh_cons hc'
  exact h _ (sub_fresh hc'' (sub_fresh hb' (sub_tail ha))) (by rw [hget_cons_ne n3, hget_cons_ne n1, hget_self]) (by rw [hget_cons_ne n2, hget_self]) (hget_self _ _ _) (fun e => n1 e.symm) n1 (fun e => n3 e.symm) n3 (fun e => n2 e.symm) n2
theorem aw_box4 {a b c' d : Nat} {X Y Z W : AObj} (ha : hget G a = none) (hb : hget ((a, X) :: G) b = none) (hc : hget ((b, Y) :: (a, X) :: G) c' = none) (hd : hget ((c', Z) :: (b, Y) :: (a, X) :: G) d = none)
    (h : ∀ B, Sub G B → hget B a = some X → hget B b = some Y → hget B c' = some Z → hget B d = some W → AW P N c Q f B) : AW P N c Q f ((d, W) :: (c', Z) :: (b, Y) :: (a, X) :: G) := by
  obtain ⟨n1, hb'⟩ := fresh_cons hb
  obtain ⟨n2, hc'⟩ := fresh_cons hc
  obtain ⟨n3, hc''⟩ := fresh_cons hc'
  obtain ⟨m1, hd1⟩ := fresh_cons hd
  obtain ⟨m2, hd2⟩ := fresh_cons hd1
  obtain ⟨m3, hd3⟩ := fresh_cons hd2
  exact h _ (sub_fresh hd3 (sub_fresh hc'' (sub_fresh hb' (sub_tail ha)))) (by rw [hget_cons_ne m3, hget_cons_ne n3, hget_cons_ne n1, hget_self]) (by rw [hget_cons_ne m2, hget_cons_ne n2, hget_self]) (by rw [hget_cons_ne m1, hget_self]) (hget_self _ _ _)
end
/-! ### a slice of this call's own making that grows: said of the heap as it is -/
/-- Room behind a slice, in heap H, beyond what G knows. -/
def Rm (G H : Heap) (n : Nat) (t : Tag) : Prop := t = .full ∨ ∃ b e c, t = .top n b e c ∧ hget H b = some (.top e c) ∧ hget G b = none
/-- Two slices have room apart. -/
def Dis (t t2 : Tag) : Prop := ∀ n b e c n2 e2 c2, t = .top n b e c → t2 = .top n2 b e2 c2 → False
/-- Behind an append: variables stay; so does the room of others. -/
def Grow (H : Heap) (t : Tag) (H' : Heap) (t' : Tag) : Prop := Stable H H' ∧ ∀ G n t2, Rm G H n t2 → Dis t t2 → Rm G H' n t2 ∧ Dis t' t2
theorem Rm.start (G H : Heap) (n : Nat) : Rm G H n .full := .inl rfl
theorem Rm.sub {G H H' : Heap} {n : Nat} {t : Tag} (h : Rm G H n t) (hs : Sub H H') : Rm G H' n t := by
  rcases h with h | ⟨b, e, c, h1, h2, h3⟩
  · exact .inl h
  · exact .inr ⟨b, e, c, h1, hs _ _ h2, h3⟩
theorem Rm.base {G G' H : Heap} {n : Nat} {t : Tag} (h : Rm G H n t) (hs : Sub G' G) : Rm G' H n t := by
  rcases h with h | ⟨b, e, c, h1, h2, h3⟩
  · exact .inl h
  · exact .inr ⟨b, e, c, h1, h2, sub_none hs h3⟩
theorem Rm.hset {G H : Heap} {n : Nat} {t : Tag} {b : Nat} {x o : AObj} (h : Rm G H n t) (hb : hget H b = some o) (ho : ∀ e c, o ≠ .top e c) : Rm G (hset H b x) n t := by
  rcases h with h | ⟨b', e, c, h1, h2, h3⟩
  · exact .inl h
  · refine .inr ⟨b', e, c, h1, ?_, h3⟩
    rw [hget_hset_ne (fun q => ?_)]
    · exact h2
    · subst q; rw [hb] at h2; exact ho e c (Option.some.inj h2)
theorem Dis.full (t : Tag) : Dis t .full := fun _ _ _ _ _ _ _ _ h => by cases h
theorem Dis.full' (t : Tag) : Dis .full t := fun _ _ _ _ _ _ _ h => by cases h
theorem Dis.symm {t s : Tag} (h : Dis t s) : Dis s t := fun n b e c n2 e2 c2 h1 h2 => h n2 b e2 c2 n e c h2 h1
theorem Grow.vars {H H' : Heap} {t t' : Tag} (h : Grow H t H' t') {b : Nat} {cs : List V} (hb : hget H b = some (.vars cs)) : hget H' b = some (.vars cs) := h.1 _ _ hb (fun _ _ q => by cases q)
theorem Grow.map {H H' : Heap} {t t' : Tag} (h : Grow H t H' t') {b : Nat} {cs : List (V × V)} (hb : hget H b = some (.map cs)) : hget H' b = some (.map cs) := h.1 _ _ hb (fun _ _ q => by cases q)
theorem Grow.rm {H H' : Heap} {t t' : Tag} (h : Grow H t H' t') {G : Heap} {n : Nat} {t2 : Tag} (h2 : Rm G H n t2) (hd : Dis t t2) : Rm G H' n t2 := (h.2 G n t2 h2 hd).1
section
variable {P : Program} {ops : List Oper} {f : Frame} {G H : Heap} {K : Kf} {d : Option Tmp} {r : Rest}
theorem goP_rm {n k : Nat} {z : V} {es ys : List (List V)} {nl : Bool} {t : Tag} (hr : Rm G H n t) (hs : Sub G H) (hc : appC n k z es ys)
    (h : ∀ t' H', Rm G H' n t' → Sub G H' → Grow H t H' t' → go P ops r (fput f d (.sl (es ++ ys) (nl && ys.isEmpty) t')) H' K) : goP P ops (appC n k z es ys) n es ys nl t d r f H K := by
  refine ⟨hc, fun hy => ?_, fun hy => ?_⟩
  · subst hy
    have := h t H hr hs ⟨Stable.refl H, fun G n t2 h2 hd => ⟨h2, hd⟩⟩
    simpa using this
  · have he : ys.isEmpty = false := by cases ys with | nil => exact absurd rfl hy | cons a l => rfl
    rw [he, Bool.and_false] at h
    rcases hr with rfl | ⟨b, e, c, rfl, hn, hgn⟩
    · intro b e c hb
      refine h _ _ (.inr ⟨b, e, c, rfl, hget_self _ _ _, sub_none hs hb⟩) (sub_fresh (sub_none hs hb) hs) ⟨Stable.cons hb, fun G2 n2 t2 h2 hd => ⟨h2.sub (sub_tail hb), ?_⟩⟩
      intro m b' e' c' n3 e3 c3 h3 h4
      cases h3
      rcases h2 with h2 | ⟨b2, e2, c2, h5, h6, _⟩
      · rw [h2] at h4; cases h4
      · rw [h5] at h4; cases h4; rw [hb] at h6; cases h6
    · refine ⟨⟨rfl, hn⟩, fun b' e' c' hb => ?_⟩
      have hkeep : ∀ x o, x ≠ b → hget H x = some o → hget ((b', AObj.top e' c') :: hdel H b) x = some o := by
        intro x o hx ho
        rw [hget_cons]
        split
        · rename_i q
          rcases hb with hb | rfl
          · rw [q, ho] at hb; cases hb
          · exact absurd q.symm hx
        · rw [hget_hdel_ne hx]; exact ho
      have hg' : hget G b' = none := by
        rcases hb with hb | rfl
        · exact sub_none hs hb
        · exact hgn
      refine h _ _ (.inr ⟨b', e', c', rfl, hget_self _ _ _, hg'⟩) (fun x o ho => ?_) ⟨fun x o ho hno => ?_, fun G2 n2 t2 h2 hd => ?_⟩
      · exact hkeep x o (fun q => by subst q; rw [hgn] at ho; cases ho) (hs _ _ ho)
      · exact hkeep x o (fun q => by subst q; rw [hn] at ho; exact hno e c (Option.some.inj ho).symm) ho
      · rcases h2 with h2 | ⟨b2, e2, c2, h5, h6, h7⟩
        · exact ⟨.inl h2, by rw [h2]; exact Dis.full _⟩
        · have hne : b2 ≠ b := fun q => by subst q; exact hd _ _ _ _ _ _ _ rfl h5
          refine ⟨.inr ⟨b2, e2, c2, h5, hkeep b2 _ hne h6, h7⟩, ?_⟩
          intro m b3 e3 c3 n4 e4 c4 h8 h9
          cases h8
          rw [h5] at h9
          cases h9
          rcases hb with hb | rfl
          · rw [h6] at hb; cases hb
          · exact hne rfl
end
/-! ### a region in its own order, some of its operations known to write nothing -/
section
variable {P : Program} {N : Nat} {Q : Cont} {f : Frame} {G : Heap}
theorem quietG_gstep {g : Bool} {f : FF} {G : Heap} {op : Op} {K : Kv} (h : quietG P g f G op K) : gstep P g f G op K := by
  unfold quietG at h
  unfold gstep
  cases hq : qv P (unF g f) G op with
  | some p => rw [hq] at h; exact h
  | none =>
    rw [hq] at h
    simp only at h ⊢
    cases g with
    | false =>
      refine ⟨fun e => (by cases e), fun _ => ?_⟩
      split at h
      · split at h
        · obtain ⟨x, _, hk⟩ := h; exact ⟨x, hk⟩
        · exact ⟨_, h.2⟩
      · exact ⟨_, h.2⟩
    | true =>
      refine ⟨fun _ => ?_, fun e => (by cases e)⟩
      split at h
      · rename_i c as_ ts
        split at h
        · rename_i g' xs ys zs h1 h2
          obtain ⟨x, hx, hk⟩ := h
          simp only [fx, h1, h2]
          exact (hx rfl).call hk
        · exact absurd h.1 (by simp)
      · exact absurd h.1 (by simp)
theorem stepV_of_quiet {f : FF} {G : Heap} {op : Op} {K : Kv} (h : quietK P f G op K) : stepV P f G op K := by
  obtain ⟨x, hq, hk⟩ := quietK_ev h
  exact hq.step hk
theorem rgD_rg {l : List Oper} {K : Kf} : ∀ (os : List Oper) (n : Nat) (σ : List (Nat × Bool)) (f : Frame) (G : Heap), l.drop n = os → σ.map (·.1) = (List.range os.length).map (· + n) → rgD P l σ f G K → rg P l os f G K
  | [], n, [], f, G, _, _, h => h
  | [], n, _ :: _, f, G, _, hs, _ => by simp at hs
  | o :: os, n, [], f, G, _, hs, _ => by simp [List.range_succ_eq_map] at hs
  | o :: os, n, (i, q) :: σ, f, G, hd, hs, h => by
    have hin : i = n ∧ σ.map (·.1) = (List.range os.length).map (· + (n + 1)) := by
      rw [List.length_cons, List.range_succ_eq_map, List.map_cons, List.map_cons] at hs
      simp only [List.cons.injEq, Nat.zero_add, List.map_map] at hs
      refine ⟨hs.1, hs.2.trans (List.map_congr_left fun a _ => ?_)⟩
      simp only [Function.comp_apply]; omega
    obtain ⟨rfl, hs'⟩ := hin
    have ho : l[i]? = some o := by
      have := congrArg (·[0]?) hd
      simpa using this
    have hd' : l.drop (i + 1) = os := by
      have := congrArg (·.drop 1) hd
      simpa using this
    unfold rgD at h
    unfold rg
    rw [ho] at h
    simp only at h
    cases hg : o.guard with
    | none =>
      rw [hg] at h
      simp only at h ⊢
      have h' : stepV P (fget f) G o.op (fun x G => rgD P l σ (fput f o.dst x) G K) := by
        cases q with
        | true => exact stepV_of_quiet h
        | false => exact h
      exact stepV_mono (fun x G hk => rgD_rg os (i + 1) σ _ G hd' hs' hk) h'
    | some jw =>
      obtain ⟨j, want⟩ := jw
      rw [hg] at h
      simp only at h ⊢
      split at h
      · rename_i d hgt
        rw [hgt]
        simp only
        split at h
        · rename_i g hv
          rw [hv]
          simp only
          have h' : gstep P g (fget f) G o.op (fun x G => rgD P l σ (fput f o.dst x) G K) := by
            cases q with
            | true => exact quietG_gstep h
            | false => exact h
          exact gstep_mono (fun x G hk => rgD_rg os (i + 1) σ _ G hd' hs' hk) h'
        · exact h.elim
      · exact h.elim
theorem aw_rgq {id : Nat} {l : List Oper} (σ : List (Nat × Bool)) (hd : l.all (dstOk N) = true) (hs : (σ.map (·.1) == List.range l.length) = true) (h : go P l (.d σ) f G (fun f G => Q .normal f G)) : AW P N (.region id l.toArray false) Q f G :=
  aw_region hd (rgD_rg l 0 σ f G rfl (by simpa using hs) h)
theorem aw_srq {id : Nat} {l : List Oper} {y : Code} (σ : List (Nat × Bool)) (hd : l.all (dstOk N) = true) (hs : (σ.map (·.1) == List.range l.length) = true) (h : go P l (.d σ) f G (fun f G => AW P N y Q f G)) : AW P N (.seq (.region id l.toArray false) y) Q f G :=
  aw_seq' (aw_rgq σ hd hs h)
end
theorem ne_fresh {G : Heap} {b b' : Nat} {o : AObj} (h : hget G b = some o) (hb : hget G b' = none) : ¬ b = b' := fun e => by subst e; rw [h] at hb; cases hb
theorem hset_keep {G : Heap} {b b' : Nat} {x o : AObj} (h : hget G b = some o) (hn : ¬ b = b') : hget (hset G b' x) b = some o := by rw [hget_hset_ne hn]; exact h
section
variable {P : Program} {N : Nat} {Q : Cont} {f : Frame} {G : Heap}
theorem aw_srf {id : Nat} {l : List Oper} {y : Code} (σ : List (Nat × Bool)) (i j : Nat) (τ1 τ2 : List (Nat × Bool)) (hmx : P.follows .mixedOrders = true) (hd : l.all (dstOk N) = true) (ho : ordFork l.toArray σ i j τ1 τ2 = true)
    (h : go P l (.d σ) f G (fun f G => go P l (.d ((i, false) :: τ1)) f G (fun f G => AW P N y Q f G) ∧ go P l (.d ((j, false) :: τ2)) f G (fun f G => AW P N y Q f G))) : AW P N (.seq (.region id l.toArray true) y) Q f G :=
  aw_seq' (aw_rgf σ i j τ1 τ2 hmx hd ho h)
end
theorem none_sub {G H : Heap} {b : Nat} (h : Sub G H) (hb : hget H b = none) : hget G b = none := sub_none h hb
end Go.Proofs.YtomjghlaoncpbaaV
