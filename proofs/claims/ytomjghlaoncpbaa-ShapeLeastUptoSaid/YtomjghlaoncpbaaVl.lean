/-
  Regions that draw their order: what answers without writing may be taken first.
-/
import Derived.Test.YtomjghlaoncpbaaVk
import Derived.Orders
namespace Go.Proofs.YtomjghlaoncpbaaV
open Go.RowKit
set_option linter.unusedVariables false
set_option linter.unusedSimpArgs false

section
variable {P : Program} {f f' : FF} {G G' : Heap}
theorem ev_congr {x : Operand} (h : ∀ t, x = .tmp t → f t = f' t) : ev f x = ev f' x := by
  cases x with
  | tmp t => exact h t rfl
  | _ => rfl
theorem evL_congr : ∀ {l : List Operand}, (∀ x ∈ l, ev f x = ev f' x) → evL f l = evL f' l
  | [], _ => rfl
  | x :: l, h => by simp only [evL, h x (by simp), evL_congr (l := l) (fun y hy => h y (by simp [hy]))]
theorem fillC_congr {place : Nat → Option (Nat × Nat)} : ∀ {ps : List (Nat × Operand)} {cs : List V}, (∀ p ∈ ps, ev f p.2 = ev f' p.2) → fillC place f cs ps = fillC place f' cs ps
  | [], _, _ => rfl
  | (i, o) :: ps, cs, h => by
    simp only [fillC, h (i, o) (by simp)]
    split
    · split
      · exact fillC_congr (fun p hp => h p (by simp [hp]))
      · rfl
    · rfl
theorem fillE_congr {n : Nat} : ∀ {ps : List (Nat × Operand)} {es : List (List V)}, (∀ p ∈ ps, ev f p.2 = ev f' p.2) → fillE n f es ps = fillE n f' es ps
  | [], _, _ => rfl
  | (i, o) :: ps, es, h => by
    simp only [fillE, h (i, o) (by simp)]
    split
    · split
      · exact fillE_congr (fun p hp => h p (by simp [hp]))
      · rfl
    · rfl
theorem evO_congr {x : Option Operand} (h : ∀ y, x = some y → ev f y = ev f' y) : evO f x = evO f' x := by
  cases x with
  | none => rfl
  | some y => simp only [evO, h y rfl]
theorem qv_congr {op : Op} (h : ∀ x ∈ op.operands, ev f x = ev f' x) : qv P f G op = qv P f' G op := by
  cases op <;> simp only [qv] <;> simp only [Op.operands] at h <;> try rfl
  case move x => rw [h x (by simp)]
  case assign x => rw [h x (by simp)]
  case pick c a b => rw [h c (by simp), h a (by simp), h b (by simp)]
  case nilCheck x => rw [h x (by simp)]
  case binOp op t x y yt => rw [h x (by simp), h y (by simp)]
  case unOp op t x => rw [h x (by simp)]
  case convert s d x => rw [h x (by simp)]
  case makeInterface t x => rw [h x (by simp)]
  case makeFunc fn xs ys => rw [evL_congr (l := xs.toList) (fun x hx => h x (by simp at hx; simp [hx])), evL_congr (l := ys.toList) (fun x hx => h x (by simp at hx; simp [hx]))]
  case lookup t x k okk => rw [h x (by simp), h k (by simp)]
  case slice t x lo hi mx => rw [h x (by simp), evO_congr (x := mx) (fun y hy => h y (by subst hy; simp)), evO_congr (x := lo) (fun y hy => h y (by subst hy; simp)), evO_congr (x := hi) (fun y hy => h y (by subst hy; simp))]
  case fieldAddr s x i => rw [h x (by simp)]
  case field s x i => rw [h x (by simp)]
  case indexAddr t x i => rw [h x (by simp), h i (by simp)]
  case index t x i => rw [h x (by simp), h i (by simp)]
  case extract x i => rw [h x (by simp)]
  case load t x => rw [h x (by simp)]
  case build t ps =>
    split
    · rw [fillC_congr (fun p hp => h p.2 (by simp; exact ⟨p.1, by simpa using hp⟩))]
    · rfl
  case buildSlice t n ps =>
    split
    · split
      · split
        · rw [fillE_congr (fun p hp => h p.2 (by simp; exact ⟨p.1, by simpa using hp⟩))]
        · rfl
      · rfl
    · rfl
  case call c =>
    obtain ⟨cal, as, ts⟩ := c
    cases cal with
    | builtin b =>
      simp only
      have h' : ∀ x ∈ as.toList, ev f x = ev f' x := fun x hx => h x (by simp [Call.operands]; simpa using hx)
      split
      · rename_i x t ts' ha ht; rw [h' x (by rw [ha]; simp)]
      · rename_i x y ha; rw [h' x (by rw [ha]; simp), h' y (by rw [ha]; simp)]
      · rename_i x y ha; rw [h' x (by rw [ha]; simp), h' y (by rw [ha]; simp)]
      · rfl
    | _ => rfl

/-- An operation that answers without looking at what may be written. -/
def pureOp : Op → Bool
  | .load _ _ => false
  | .lookup _ _ _ _ => false
  | .call _ => false
  | _ => true
theorem qv_pure {op : Op} (h : pureOp op = true) : qv P f G op = qv P f G' op := by
  cases op <;> simp only [qv] <;> try rfl
  case load => simp [pureOp] at h
  case lookup => simp [pureOp] at h
  case call c => obtain ⟨cal, as, ts⟩ := c; cases cal <;> first | rfl | (simp [pureOp] at h)
/-- What may be written says as much behind as ahead, but for the room behind slices. -/
def Stable (G G' : Heap) : Prop := ∀ b o, hget G b = some o → (∀ e c, o ≠ .top e c) → hget G' b = some o
theorem Stable.refl (G : Heap) : Stable G G := fun _ _ h _ => h
theorem Stable.trans {A B C : Heap} (h : Stable A B) (k : Stable B C) : Stable A C := fun b o q n => k b o (h b o q n) n
/-- A call that, wherever what G says of variables and maps is true, leaves the heap as it is and answers x. -/
def QOn (P : Program) (G : Heap) (g : FuncId) (args : List V) (x : V) : Prop := ∀ G', Stable G G' → ACall P g args (fun y G2 => y = x ∧ G2 = G') G'
theorem Quiet.qon {P : Program} {g : FuncId} {args : List V} {x : V} (h : Quiet P g args x) (G : Heap) : QOn P G g args x := fun G' _ => h G'
theorem QOn.stable {P : Program} {g : FuncId} {args : List V} {x : V} {G G' : Heap} (h : QOn P G g args x) (hs : Stable G G') : QOn P G' g args x := fun G2 h2 => h G2 (hs.trans h2)
theorem QOn.call {P : Program} {g : FuncId} {args : List V} {x : V} {G : Heap} (h : QOn P G g args x) {Q : V → Heap → Prop} (hq : Q x G) : ACall P g args Q G :=
  (h G (Stable.refl G)).mono fun y G' ⟨h1, h2⟩ => by subst h1; subst h2; exact hq
theorem loadV_stable (h : Stable G G') {t : TypeId} {X x : V} (hx : loadV P G t X = some x) : loadV P G' t X = some x := by
  unfold loadV at hx ⊢
  split at hx
  · rename_i b o
    split at hx
    · rename_i cs hb
      rw [h b _ hb (by simp)]; exact hx
    · cases hx
  · exact hx
  · cases hx
theorem lenV_stable (h : Stable G G') {t : TypeId} {X : V} {r : Prop × V} (hx : lenV P G t X = some r) : lenV P G' t X = some r := by
  unfold lenV at hx ⊢
  split at hx
  · exact hx
  · exact hx
  · exact hx
  · exact hx
  · rename_i b
    split at hx
    · rename_i hk
      rw [if_pos hk]
      split at hx
      · rename_i kvs hb
        rw [h b _ hb (by simp)]; exact hx
      · cases hx
    · cases hx
  · cases hx
theorem qv_stable (h : Stable G G') {op : Op} {r : Prop × V} (hx : qv P f G op = some r) : qv P f G' op = some r := by
  by_cases hp : pureOp op = true
  · rw [← qv_pure (G := G) hp]; exact hx
  · cases op <;> simp only [pureOp, not_true_eq_false] at hp
    case load t a =>
      simp only [qv] at hx ⊢
      split at hx
      · rename_i X hX
        split at hx
        · rename_i Y hY
          simp only [hX, loadV_stable h hY]; exact hx
        · cases hx
      · cases hx
    case lookup t x k okk =>
      simp only [qv] at hx ⊢
      split at hx
      · rename_i X K kt z hX hK ht
        split at hx
        · rename_i hs
          rw [if_pos hs]
          unfold lookV at hx ⊢
          split at hx
          · exact hx
          · rename_i b
            split at hx
            · rename_i kvs hb
              rw [h b _ hb (by simp)]; exact hx
            · cases hx
          · cases hx
        · cases hx
      · cases hx
    case call c =>
      obtain ⟨cal, as, ts⟩ := c
      cases cal <;> try exact hx
      rename_i b
      simp only [qv] at hx ⊢
      split at hx
      · rename_i x t ts' ha ht
        try simp only [ha, ht]
        split at hx
        · rename_i X hX
          (try simp only [hX]); exact lenV_stable h hx
        · cases hx
      · rename_i x y ha; (try simp only [ha]); exact hx
      · rename_i x y ha; (try simp only [ha]); exact hx
      · cases hx

/-- An answer that leaves the heap as it is. -/
def QEv (P : Program) (f : FF) (G : Heap) (op : Op) (x : V) : Prop :=
  (∃ C, qv P f G op = some (C, x) ∧ C) ∨
  ∃ c as ts g xs ys zs, op = .call { callee := .value c, args := as, argTypes := ts } ∧ callee f c = some (g, xs, ys) ∧ evL f as.toList = some zs ∧ QOn P G g (xs ++ zs ++ ys) x
theorem callee_congr {c : Operand} (h : ev f c = ev f' c) : callee f c = callee f' c := by
  cases c with
  | func g => rfl
  | _ => simp only [callee, h]
theorem QEv.congr {op : Op} {x : V} (hq : QEv P f G op x) (h : ∀ y ∈ op.operands, ev f y = ev f' y) : QEv P f' G op x := by
  rcases hq with ⟨C, h1, h2⟩ | ⟨c, as, ts, g, xs, ys, zs, rfl, h1, h2, h3⟩
  · exact .inl ⟨C, by rw [← qv_congr h]; exact h1, h2⟩
  · refine .inr ⟨c, as, ts, g, xs, ys, zs, rfl, ?_, ?_, h3⟩
    · rw [← callee_congr (h c (by simp [Op.operands, Call.operands]))]; exact h1
    · rw [← evL_congr (fun y hy => h y (by simp [Op.operands, Call.operands]; right; simpa using hy))]; exact h2
theorem QEv.stable {op : Op} {x : V} (hq : QEv P f G op x) (h : Stable G G') : QEv P f G' op x := by
  rcases hq with ⟨C, h1, h2⟩ | hq
  · exact .inl ⟨C, qv_stable h h1, h2⟩
  · obtain ⟨c, as, ts, g, xs, ys, zs, e, h1, h2, h3⟩ := hq
    exact .inr ⟨c, as, ts, g, xs, ys, zs, e, h1, h2, h3.stable h⟩
theorem QEv.pure {op : Op} {x : V} (hp : pureOp op = true) (hq : QEv P f G op x) (G' : Heap) : QEv P f G' op x := by
  rcases hq with ⟨C, h1, h2⟩ | hq
  · exact .inl ⟨C, by rw [← qv_pure (G := G) hp]; exact h1, h2⟩
  · obtain ⟨c, as, ts, g, xs, ys, zs, rfl, _⟩ := hq
    simp [pureOp] at hp
theorem QEv.step {op : Op} {x : V} {K : Kv} (hq : QEv P f G op x) (hk : K x G) : stepV P f G op K := by
  rcases hq with ⟨C, h1, h2⟩ | ⟨c, as, ts, g, xs, ys, zs, rfl, h1, h2, h3⟩
  · unfold stepV; rw [h1]; exact ⟨h2, hk⟩
  · have hn : qv P f G (.call { callee := .value c, args := as, argTypes := ts }) = none := by simp only [qv]
    unfold stepV
    rw [hn]
    simp only [fx, h1, h2]
    exact h3.call hk
theorem fx_congr {op : Op} {K : Kv} (h : ∀ x ∈ op.operands, ev f x = ev f' x) (hf : fx P f G op K) : fx P f' G op K := by
  unfold fx at hf ⊢
  split at hf
  · exact hf
  · rename_i t x; rw [← h x (by simp [Op.operands])]; exact hf
  · rename_i t p x; rw [← h p (by simp [Op.operands]), ← h x (by simp [Op.operands])]; exact hf
  · rename_i c as ts
    rw [← callee_congr (h c (by simp [Op.operands, Call.operands])), ← evL_congr (fun y hy => h y (by simp [Op.operands, Call.operands]; right; simpa using hy))]
    exact hf
  · rename_i as ts
    split at hf
    · rename_i x y tx ty ha ht
      have hx : x ∈ as := by have : x ∈ as.toList := by rw [ha]; simp
                             simpa using this
      have hy : y ∈ as := by have : y ∈ as.toList := by rw [ha]; simp
                             simpa using this
      try simp only
      rw [← h x (by simp [Op.operands, Call.operands, hx]), ← h y (by simp [Op.operands, Call.operands, hy])]
      exact hf
    · exact hf.elim
  · rename_i t l c; rw [← h l (by simp [Op.operands]), ← h c (by simp [Op.operands])]; exact hf
  · exact hf
  · rename_i t m k x; rw [← h m (by simp [Op.operands]), ← h k (by simp [Op.operands]), ← h x (by simp [Op.operands])]; exact hf
  · rename_i t m k x; rw [← h m (by simp [Op.operands]), ← h k (by simp [Op.operands]), ← h x (by simp [Op.operands])]; exact hf
  · exact hf.elim
theorem stepV_congr {op : Op} {K : Kv} (h : ∀ x ∈ op.operands, ev f x = ev f' x) (hf : stepV P f G op K) : stepV P f' G op K := by
  unfold stepV at hf ⊢
  rw [← qv_congr h]
  split at hf
  · exact hf
  · exact fx_congr h hf

/-- An operation that leaves variables and maps as they are. -/
def mildOp : Op → Bool
  | .alloc _ | .box _ _ | .makeSlice _ _ _ | .makeMap _ _ => true
  | .call { callee := .builtin .append, .. } => true
  | .call _ => false
  | .store _ _ _ | .mapUpdate _ _ _ _ | .insert _ _ _ _ | .mapEntry _ _ _ | .entryStore _ _ _ _ | .next _ _ | .range _ _ | .entry _ => false
  | .go _ | .defer _ | .panic _ | .send _ _ | .recv _ _ _ | .select _ _ => false
  | _ => true
theorem Stable.cons {b : Nat} {o : AObj} (hb : hget G b = none) : Stable G ((b, o) :: G) := fun b' o' h _ => by
  rw [hget_cons]; rw [if_neg]
  · exact h
  · intro e; subst e; rw [hb] at h; cases h
theorem hget_hdel_ne {b b' : Nat} (h : b' ≠ b) : ∀ G : Heap, hget (hdel G b) b' = hget G b'
  | [] => rfl
  | (k, u) :: G => by
    simp only [hdel]
    by_cases e : k = b
    · subst e; rw [if_pos rfl, hget_hdel_ne h G]; simp only [hget]; rw [if_neg (fun q => h q.symm)]
    · rw [if_neg e]
      simp only [hget]
      split
      · rfl
      · exact hget_hdel_ne h G
theorem fx_mild {op : Op} {K : Kv} (hm : mildOp op = true) (h : fx P f G op K) : fx P f G op (fun x G' => Stable G G' ∧ K x G') := by
  unfold fx at h ⊢
  split at h
  · split at h
    · exact ⟨h.1, fun b hb => ⟨Stable.cons hb, h.2 b hb⟩⟩
    · exact h
  · split at h
    · exact ⟨h.1, fun b hb => ⟨Stable.cons hb, h.2 b hb⟩⟩
    · exact h
  · simp [mildOp] at hm
  · simp [mildOp] at hm
  · split at h
    · split at h
      · split at h
        · refine ⟨h.1, fun q => ⟨Stable.refl _, h.2.1 q⟩, fun q => ?_⟩
          have h2 := h.2.2 q
          split at h2
          · exact h2
          · exact fun b e c hb => ⟨Stable.cons hb, h2 b e c hb⟩
          · rename_i s b0 e0 c0 heq0
            refine ⟨h2.1, fun b e c hb => ⟨fun b' o' g1 g2 => ?_, h2.2 b e c hb⟩⟩
            have hne0 : b' ≠ b0 := by intro q2; subst q2; rw [h2.1.2] at g1; cases g1; exact g2 _ _ rfl
            have hneb : b ≠ b' := by
              intro q2; subst q2
              rcases hb with hb | hb
              · rw [hb] at g1; cases g1
              · exact hne0 hb
            rw [hget_cons, if_neg hneb, hget_hdel_ne hne0]; exact g1
        · exact h
      · exact h
    · exact h
  · split at h
    · split at h
      · exact ⟨h.1, fun b hb => ⟨Stable.cons hb, h.2 b hb⟩⟩
      · exact h
    · exact h
  · exact fun b hb => ⟨Stable.cons hb, h b hb⟩
  · simp [mildOp] at hm
  · simp [mildOp] at hm
  · exact h
theorem stepV_mild {op : Op} {K : Kv} (hm : mildOp op = true) (h : stepV P f G op K) : stepV P f G op (fun x G' => Stable G G' ∧ K x G') := by
  unfold stepV at h ⊢
  split at h
  · exact ⟨h.1, Stable.refl _, h.2⟩
  · exact fx_mild hm h
end
end Go.Proofs.YtomjghlaoncpbaaV
