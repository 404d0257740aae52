/-
  What a piece of code, and a call, do to values and to the heap of what may be written: the rules of control.
-/
import Derived.Test.YtomjghlaoncpbaaVa
namespace Go.Proofs.YtomjghlaoncpbaaV
open Go.RowKit
set_option linter.unusedVariables false
set_option linter.unusedSimpArgs false

abbrev Cont := Exit → Frame → Heap → Prop
/-- The post of a piece of code, said of the machine's frame and world. -/
def lift (E : Env) (M : PM) (N : Nat) (Q : Cont) : Exit → Act → World → Prop := fun e a w =>
  ∃ M' f G, M.le M' ∧ Mem E M' G w ∧ RepF M' f a.tmps ∧ a.tmps.size = N ∧ a.defers = [] ∧ Q e f G
theorem lift_mono {E : Env} {M M' : PM} {N : Nat} {Q : Cont} (hM : M.le M') (e : Exit) (a : Act) (w : World) (h : lift E M' N Q e a w) : lift E M N Q e a w := by
  obtain ⟨M2, f, G, h1, r⟩ := h
  exact ⟨M2, f, G, PM.le_trans hM h1, r⟩
theorem lift_imp {E : Env} {M : PM} {N : Nat} {Q Q' : Cont} (hq : ∀ e f G, Q e f G → Q' e f G) (e : Exit) (a : Act) (w : World) (h : lift E M N Q e a w) : lift E M N Q' e a w := by
  obtain ⟨M2, f, G, h1, h2, h3, h4, h5, h6⟩ := h
  exact ⟨M2, f, G, h1, h2, h3, h4, h5, hq _ _ _ h6⟩

def AW (P : Program) (N : Nat) (c : Code) (Q : Cont) (f : Frame) (G : Heap) : Prop :=
  ∀ E M w (a : Act), Mem E M G w → RepF M f a.tmps → a.tmps.size = N → a.defers = [] → c.wp P (lift E M N Q) a w

section
variable {P : Program} {N : Nat} {Q : Cont} {f : Frame} {G : Heap}
theorem AW.mono {c : Code} {Q' : Cont} (h : AW P N c Q f G) (hq : ∀ e f G, Q e f G → Q' e f G) : AW P N c Q' f G :=
  fun E M w a hm hf hn hd => wp_mono (h E M w a hm hf hn hd) (lift_imp hq)
/-- Less is known of the frame and of the heap. -/
theorem AW.sub {c : Code} {f' : Frame} {G' : Heap} (hf : ∀ i v, fget f' i = some v → fget f i = some v) (hG : ∀ b o, hget G' b = some o → hget G b = some o) (h : AW P N c Q f' G') : AW P N c Q f G :=
  fun E M w a hm hr hn hd => h E M w a (hm.sub hG) (hr.sub hf) hn hd
theorem AW.keep {c : Code} (ks : List Nat) (h : AW P N c Q (fkeep f ks) G) : AW P N c Q f G := h.sub (fkeep_sub f ks) (fun _ _ h => h)

def thenK (K : Frame → Heap → Prop) (Q : Cont) : Cont
  | .normal, f, G => K f G
  | e, f, G => Q e f G
def inBlockK (id : Nat) (Q : Cont) : Cont
  | .exit id', f, G => if id' = id then Q .normal f G else Q (.exit id') f G
  | e, f, G => Q e f G

theorem aw_skip (h : Q .normal f G) : AW P N .skip Q f G := fun E M w a hm hr hn hd => wp_skip ⟨M, f, G, M.le_refl, hm, hr, hn, hd, h⟩
theorem aw_label {l : Nat} (h : Q .normal f G) : AW P N (.label l) Q f G := fun E M w a hm hr hn hd => wp_label ⟨M, f, G, M.le_refl, hm, hr, hn, hd, h⟩
theorem aw_exit {id : Nat} (h : Q (.exit id) f G) : AW P N (.exit id) Q f G := fun E M w a hm hr hn hd => wp_exit ⟨M, f, G, M.le_refl, hm, hr, hn, hd, h⟩
theorem aw_ret (h : Q .ret f G) : AW P N .ret Q f G := fun E M w a hm hr hn hd => wp_ret ⟨M, f, G, M.le_refl, hm, hr, hn, hd, h⟩
theorem aw_seq' {x y : Code} (h : AW P N x (thenK (AW P N y Q) Q) f G) : AW P N (.seq x y) Q f G := by
  intro E M w a hm hr hn hd
  refine wp_seq (wp_mono (h E M w a hm hr hn hd) ?_)
  intro e a' w' hl
  obtain ⟨M', f', G', h1, h2, h3, h4, h5, h6⟩ := hl
  cases e with
  | normal => exact wp_mono (h6 E M' w' a' h2 h3 h4 h5) (fun e a w => lift_mono h1 e a w)
  | _ => exact ⟨M', f', G', h1, h2, h3, h4, h5, h6⟩
theorem aw_seq {x y : Code} (h : ∀ K : Frame → Heap → Prop, (∀ f G, AW P N y Q f G → K f G) → AW P N x (thenK K Q) f G) : AW P N (.seq x y) Q f G :=
  aw_seq' (h _ fun _ _ h => h)
theorem aw_cond {c : Operand} {x y : Code} {b : Bool} (hc : ∀ M (t : Array Value), RepF M f t → ∀ ds, (Act.mk t ds).eval c = .bool b) (ht : b = true → AW P N x Q f G) (he : b = false → AW P N y Q f G) :
    AW P N (.cond c x y) Q f G := by
  intro E M w a hm hr hn hd
  refine wp_cond_split (t := b) ?_ (fun h => ht h E M w a hm hr hn hd) (fun h => he h E M w a hm hr hn hd)
  exact hc M a.tmps hr a.defers
theorem aw_if {i : Nat} {x y : Code} {b : Bool} (hc : fget f i = some (.bool b)) (ht : b = true → AW P N x Q f G) (he : b = false → AW P N y Q f G) : AW P N (.cond (.tmp i) x y) Q f G :=
  aw_cond (b := b) (fun M t hr ds => by
    obtain ⟨h1, h2⟩ := hr i _ hc
    have h3 : t.getD i undef = .bool b := by cases h : t.getD i undef <;> rw [h] at h2 <;> cases h2; rfl
    exact h3) ht he
theorem aw_block {id : Nat} {c : Code} (h : AW P N c (inBlockK id Q) f G) : AW P N (.block id c) Q f G := by
  intro E M w a hm hr hn hd
  refine wp_block (wp_mono (h E M w a hm hr hn hd) ?_)
  intro e a' w' hl
  obtain ⟨M', f', G', h1, h2, h3, h4, h5, h6⟩ := hl
  cases e with
  | exit id' =>
    simp only [inBlockK] at h6
    by_cases e : id' = id
    · rw [if_pos e] at h6; simp only [Exit.inBlock, e, if_true]; exact ⟨M', f', G', h1, h2, h3, h4, h5, h6⟩
    · rw [if_neg e] at h6; simp only [Exit.inBlock, e, if_false]; exact ⟨M', f', G', h1, h2, h3, h4, h5, h6⟩
  | _ => exact ⟨M', f', G', h1, h2, h3, h4, h5, h6⟩

/-- A loop: at each round's head the frame and the heap are those of some 's', and 'μ s' goes down. -/
theorem aw_loop {c : Code} {S : Type} (F : S → Frame) (H : S → Heap) (μ : S → Nat) (s0 : S)
    (hf : ∀ i v, fget (F s0) i = some v → fget f i = some v) (hG : ∀ b o, hget (H s0) b = some o → hget G b = some o)
    (round : ∀ s, AW P N c (thenK (fun f' G' => ∃ s', μ s' < μ s ∧ (∀ i v, fget (F s') i = some v → fget f' i = some v) ∧ ∀ b o, hget (H s') b = some o → hget G' b = some o) Q) (F s) (H s)) :
    AW P N (.loop c) Q f G := by
  intro E M w a hm hr hn hd
  let I : Act → World → Prop := fun a w => ∃ s M', M.le M' ∧ Mem E M' (H s) w ∧ RepF M' (F s) a.tmps ∧ a.tmps.size = N ∧ a.defers = []
  let Bd : Act → World → Nat → Prop := fun a w k => ∃ s M', M.le M' ∧ Mem E M' (H s) w ∧ RepF M' (F s) a.tmps ∧ a.tmps.size = N ∧ a.defers = [] ∧ μ s = k
  intro b k cs
  have key : ∀ n a w, Bd a w n → ∃ e a' w', lift E M N Q e a' w' ∧ Arrives P (lone (b.at a (.code c :: .inLoop c :: k)) cs w) b k cs e a' w' := by
    intro n
    induction n using Nat.strongRecOn with
    | _ n ih =>
      intro a w hI
      obtain ⟨s, M1, h1, h2, h3, h4, h5, h6⟩ := hI
      obtain ⟨e, a1, w1, hq, harr⟩ := round s E M1 w a h2 h3 h4 h5 b (.inLoop c :: k) cs
      obtain ⟨M2, f2, G2, g1, g2, g3, g4, g5, g6⟩ := hq
      cases e with
      | normal =>
        obtain ⟨s', hlt, q1, q2⟩ := g6
        obtain ⟨e2, a2, w2, hq2, harr2⟩ := ih (μ s') (h6 ▸ hlt) a1 w1 ⟨s', M2, PM.le_trans h1 g1, g2.sub q2, g3.sub q1, g4, g5, rfl⟩
        exact ⟨e2, a2, w2, hq2, .of_steps (Steps.trans harr (.one step_inLoop)) harr2⟩
      | exit id => exact ⟨_, a1, w1, ⟨M2, f2, G2, PM.le_trans h1 g1, g2, g3, g4, g5, g6⟩, .pass (x := .inLoop c) rfl (fun _ _ => .inl (by simp)) harr⟩
      | goto l => exact ⟨_, a1, w1, ⟨M2, f2, G2, PM.le_trans h1 g1, g2, g3, g4, g5, g6⟩, .pass (x := .inLoop c) rfl (fun _ _ => .inl (by simp)) harr⟩
      | ret => exact ⟨_, a1, w1, ⟨M2, f2, G2, PM.le_trans h1 g1, g2, g3, g4, g5, g6⟩, .pass (x := .inLoop c) rfl (fun _ _ => .inl (by simp)) harr⟩
      | panic ch => exact ⟨_, a1, w1, ⟨M2, f2, G2, PM.le_trans h1 g1, g2, g3, g4, g5, g6⟩, .pass (x := .inLoop c) rfl (fun _ _ => .inl (by simp)) harr⟩
      | outgrown => exact ⟨_, a1, w1, ⟨M2, f2, G2, PM.le_trans h1 g1, g2, g3, g4, g5, g6⟩, .pass (x := .inLoop c) rfl (fun _ _ => .inl (by simp)) harr⟩
  obtain ⟨e, a', w', hq, harr⟩ := key (μ s0) a w ⟨s0, M, M.le_refl, hm.sub hG, hr.sub hf, hn, hd, rfl⟩
  exact ⟨e, a', w', hq, .of_steps (.one step_loop) harr⟩
end

/-! ### calls -/
/-- The call of function 'g', as an operation meets it, comes back with R. -/
def CallsTo (P : Program) (g : FuncId) (vs : Array Value) (w : World) (R : Value → World → Prop) : Prop :=
  ∀ (o : Oper) (a : Act) (next : Act → World → Prop) (Q : Exit → Act → World → Prop), (∀ v w', R v w' → next (a.put o.dst v) w') → o.upon P a next Q ((callFunc g vs).run P w)
def APost (E : Env) (M : PM) (Q : V → Heap → Prop) : Value → World → Prop := fun v w => ∃ M' G x, M.le M' ∧ Mem E M' G w ∧ Rep M' x v ∧ Q x G
def ACall (P : Program) (g : FuncId) (args : List V) (Q : V → Heap → Prop) (G : Heap) : Prop :=
  ∀ E M w (vs : Array Value), Mem E M G w → RepL M args vs.toList → CallsTo P g vs w (APost E M Q)
theorem CallsTo.mono {P : Program} {g : FuncId} {vs : Array Value} {w : World} {R R' : Value → World → Prop} (h : CallsTo P g vs w R) (hr : ∀ v w', R v w' → R' v w') : CallsTo P g vs w R' :=
  fun o a next Q hn => h o a next Q (fun v w' k => hn v w' (hr v w' k))
theorem ACall.mono {P : Program} {g : FuncId} {args : List V} {Q Q' : V → Heap → Prop} {G : Heap} (h : ACall P g args Q G) (hq : ∀ x G, Q x G → Q' x G) : ACall P g args Q' G :=
  fun E M w vs hm hr => (h E M w vs hm hr).mono fun v w' ⟨M', G', x, h1, h2, h3, h4⟩ => ⟨M', G', x, h1, h2, h3, hq _ _ h4⟩
theorem ACall.sub {P : Program} {g : FuncId} {args : List V} {Q : V → Heap → Prop} {G G' : Heap} (hG : ∀ b o, hget G' b = some o → hget G b = some o) (h : ACall P g args Q G') : ACall P g args Q G :=
  fun E M w vs hm hr => h E M w vs (hm.sub hG) hr
/-- A call that leaves the heap as it was, whatever it is, and answers x. -/
def Quiet (P : Program) (g : FuncId) (args : List V) (x : V) : Prop := ∀ G, ACall P g args (fun y G' => y = x ∧ G' = G) G
theorem Quiet.call {P : Program} {g : FuncId} {args : List V} {x : V} (h : Quiet P g args x) {Q : V → Heap → Prop} {G : Heap} (hq : Q x G) : ACall P g args Q G :=
  (h G).mono fun y G' ⟨h1, h2⟩ => by subst h1; subst h2; exact hq

def fargs : Nat → List V → Frame
  | _, [] => []
  | i, a :: as => (i, a) :: fargs (i + 1) as
theorem fget_fargs : ∀ (as : List V) (k i : Nat) (v : V), fget (fargs k as) i = some v → k ≤ i ∧ as[i - k]? = some v
  | [], k, i, v, h => by simp [fargs, fget] at h
  | a :: as, k, i, v, h => by
    simp only [fargs, fget] at h
    by_cases e : k = i
    · subst e; rw [if_pos rfl] at h; exact ⟨Nat.le_refl _, by simpa using h⟩
    · rw [if_neg e] at h
      obtain ⟨h1, h2⟩ := fget_fargs as (k + 1) i v h
      refine ⟨by omega, ?_⟩
      have : i - k = (i - (k + 1)) + 1 := by omega
      rw [this]; simpa using h2

/-- A variable's cells, as a value. -/
def tsz (P : Program) (t : TypeId) : Option Nat := (P.info? t).map (·.size)
def tagg (P : Program) (t : TypeId) : Option Bool := match P.underlying t with | some (.struct _) | some (.array _ _) => some true | some _ => some false | none => none
def cellsAt (P : Program) (t : TypeId) (cs : List V) (o : Nat) : Option V :=
  match tagg P t, tsz P t with
  | some true, some n => if o + n ≤ cs.length then some (.agg ((cs.drop o).take n)) else none
  | some false, some _ => cs[o]?
  | _, _ => none
def resOf (P : Program) (f : Frame) (G : Heap) : ResultVar → Option V
  | .tmp t => fget f t
  | .cell t ty => match fget f t with
    | some (.ptr b o) => match hget G b with
      | some (.vars cs) => cellsAt P ty cs o
      | _ => none
    | _ => none
def resL (P : Program) (f : Frame) (G : Heap) : List ResultVar → Option (List V)
  | [] => some []
  | r :: rs => match resOf P f G r, resL P f G rs with
    | some x, some xs => some (x :: xs)
    | _, _ => none
def oneOf : List V → V
  | [x] => x
  | xs => .tup xs
def retQ (P : Program) (rs : List ResultVar) (Q : V → Heap → Prop) : Cont := fun e f G => (match e with | .normal => True | .ret => True | _ => False) ∧ ∃ xs, resL P f G rs = some xs ∧ Q (oneOf xs) G
end Go.Proofs.YtomjghlaoncpbaaV
