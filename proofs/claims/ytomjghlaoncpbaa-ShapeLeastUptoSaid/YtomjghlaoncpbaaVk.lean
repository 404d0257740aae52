/-
  Operations that write, or make, or call: new variables, stores, calls.
-/
import Derived.Test.YtomjghlaoncpbaaVjb
namespace Go.Proofs.YtomjghlaoncpbaaV
open Go.RowKit
set_option linter.unusedVariables false
set_option linter.unusedSimpArgs false

section
variable {P : Program} {E : Env} {M : PM} {G : Heap} {w : World} {f : FF} {a : Act} {N : Nat}
theorem Mem.new_vars (hm : Mem E M G w) {x : V} {v : Value} (hp : plainV x = true) (hr : Rep M x v) (T : TypeId) : hget G w.heap.size = none ∧ Mem E M ((w.heap.size, .vars (cellsV x)) :: G) (w.alloc (.cells v.cells T)) := by
  have hG : hget G w.heap.size = none := by
    cases hq : hget G w.heap.size with
    | none => rfl
    | some o => have := (hm.obj _ _ hq).2.lt; omega
  have hc := plainV_cells hp hr
  have ha := hm.alloc (.cells v.cells T)
  refine ⟨hG, ha.below, ha.base, ha.pm, fun b o ho => ?_⟩
  rw [hget_cons] at ho
  by_cases e : w.heap.size = b
  · subst e
    rw [if_pos rfl] at ho
    cases ho
    refine ⟨hm.size, v.cells, T, (0, 0), by show (w.heap.push _)[w.heap.size]? = _; simp, by have := hc.1; simp at this; omega, fun i hi => ?_, fun i _ _ h => by omega, fun o => hm.none_new (Nat.le_refl _) o⟩
    have := hc.2 i hi
    rw [List.getD_eq_getElem?_getD] at this
    rw [Array.getD_eq_getD_getElem?]; simpa using this
  · rw [if_neg e] at ho
    exact ha.obj b o ho

/-- A store of one cell into a variable of the call's own. -/
theorem Mem.store1 (hm : Mem E M G w) {b : Nat} {cs : List V} (hb : hget G b = some (.vars cs)) {o : Nat} (ho : o < cs.length) {x : V} {v : Value} (hr : Rep M x v) (h1 : v.oneCell' = true) :
    (store ⟨b, o, none⟩ v).run P w = .ok () (w.setCell ⟨b, o, none⟩ v) ∧ Mem E M (hset G b (.vars (cs.set o x))) (w.setCell ⟨b, o, none⟩ v) := by
  obtain ⟨hB, arr, T, fr, h2, h3, h4, h5, h6⟩ := hm.obj b _ hb
  have hcell : w.cell? ⟨b, o, none⟩ = some (arr[o]'(by omega)) := by
    unfold World.cell?
    simp only [h2, Option.isSome_none, Bool.false_eq_true, if_false]
    exact Array.getElem?_eq_getElem (by omega)
  have hfz : w.frozen? ⟨b, o, none⟩ = false := by
    unfold World.frozen?
    simp only [h2]
    have := h5 o (Nat.zero_le _) ho
    simp only [Bool.and_eq_false_iff, decide_eq_false_iff_not]
    by_cases q : fr.1 ≤ o
    · right; intro q2; exact this ⟨q, q2⟩
    · left; exact q
  refine ⟨by rw [run_store P w _ v _ h1]; simp [hcell, hfz], ?_⟩
  have hbel : Below E.B E.w0 (w.setCell ⟨b, o, none⟩ v) := hm.below.setCell (p := ⟨b, o, none⟩) hB v
  refine ⟨hbel, hm.base, fun b' o' u hu => ?_, fun b' ob hob => ?_⟩
  · have hne : b' ≠ b := by intro e; subst e; rw [h6] at hu; cases hu
    rw [World.cell?_setCell_other _ _ _ _ (by intro e; injection e with e1 _ _; exact hne e1.symm)]
    exact hm.pm _ _ _ hu
  · rcases hget_hset hob with ⟨rfl, rfl⟩ | ⟨hne, hob⟩
    · refine ⟨hB, arr.setIfInBounds o v, T, fr, heap_setCell_vars w h2 o v, by simpa using h3, fun i hi => ?_, by simpa using h5, h6⟩
      have hi' : i < cs.length := by simpa using hi
      rw [Array.getD_eq_getD_getElem?, Array.getElem?_setIfInBounds, List.getElem_set]
      by_cases e : o = i
      · subst e
        rw [if_pos rfl, if_pos rfl, if_pos (by omega)]; exact hr
      · rw [if_neg e, if_neg e]
        have := h4 i hi'
        rw [Array.getD_eq_getD_getElem?] at this; exact this
    · refine ⟨(hm.obj _ _ hob).1, ?_⟩
      have hk : ∀ (k : Nat), k ≠ b → (w.setCell ⟨b, o, none⟩ v).heap[k]? = w.heap[k]? := fun k hk => heap_setCell_ne w hk o v
      have hok := (hm.obj _ _ hob).2
      cases ob with
      | vars cs' => obtain ⟨arr', T', fr', g1, r⟩ := hok; exact ⟨arr', T', fr', by rw [hk _ hne]; exact g1, r⟩
      | top e c => obtain ⟨arr', T', fr', g1, r⟩ := hok; exact ⟨arr', T', fr', by rw [hk _ hne]; exact g1, r⟩
      | map kvs => obtain ⟨es, ck, g1, r⟩ := hok; exact ⟨es, ck, by rw [hk _ hne]; exact g1, r⟩
      | siter s pos => show _ = _; rw [hk _ hne]; exact hok
      | miter m todo => obtain ⟨s1, s2, s3, g1⟩ := hok; exact ⟨s1, s2, s3, by rw [hk _ hne]; exact g1⟩
theorem hset_hset (G : Heap) (b : Nat) (x y : AObj) : hset (hset G b x) b y = hset G b y := by
  induction G with
  | nil => rfl
  | cons p G ih =>
    obtain ⟨k, u⟩ := p
    simp only [hset]
    by_cases e : k = b
    · subst e; simp [hset]
    · simp [hset, e, ih]
theorem hget_hset_self {G : Heap} {b : Nat} {x y : AObj} (h : hget G b = some x) : hget (hset G b y) b = some y := by
  induction G with
  | nil => simp [hget] at h
  | cons p G ih =>
    obtain ⟨k, u⟩ := p
    simp only [hset]
    by_cases e : k = b
    · subst e; simp [hget]
    · rw [if_neg e]; simp only [hget] at h ⊢; rw [if_neg e] at h ⊢; exact ih h
theorem hset_same {G : Heap} {b : Nat} {x : AObj} (h : hget G b = some x) : hset G b x = G := by
  induction G with
  | nil => rfl
  | cons p G ih =>
    obtain ⟨k, u⟩ := p
    simp only [hset, hget] at h ⊢
    by_cases e : k = b
    · rw [if_pos e] at h ⊢; cases h; rfl
    · rw [if_neg e] at h ⊢; rw [ih h]
/-- No cell of a value is a struct. -/
def oneCells (vs : List Value) : Prop := ∀ v ∈ vs, v.oneCell' = true
theorem Mem.storeCells : ∀ {xs : List V} {us : List Value} (hx : RepL M xs us) (hs : xs.all scalarV = true) {G : Heap} {w : World} (hm : Mem E M G w) {b : Nat} {cs : List V} (hb : hget G b = some (.vars cs)) (o k : Nat) (ho : o + k + xs.length ≤ cs.length),
    ∃ w', (Go.storeCells ⟨b, o, none⟩ us k).run P w = .ok () w' ∧ Mem E M (hset G b (.vars (setMany cs (o + k) xs))) w'
  | [], us, hx, hs, G, w, hm, b, cs, hb, o, k, ho => by
    have : us = [] := List.eq_nil_of_length_eq_zero hx.1.symm
    subst this
    exact ⟨w, rfl, by simp only [setMany]; rw [hset_same hb]; exact hm⟩
  | x :: xs, [], hx, hs, G, w, hm, b, cs, hb, o, k, ho => absurd hx.1 (by simp)
  | x :: xs, u :: us, hx, hs, G, w, hm, b, cs, hb, o, k, ho => by
    simp only [List.all_cons, Bool.and_eq_true] at hs
    simp only [List.length_cons] at ho
    obtain ⟨h1, h2⟩ := hm.store1 (P := P) hb (o := o + k) (by omega) hx.head (scalar_one hs.1 hx.head)
    obtain ⟨w', h3, h4⟩ := Mem.storeCells hx.tail hs.2 h2 (hget_hset_self hb) o (k + 1) (by simp; omega)
    refine ⟨w', ?_, ?_⟩
    · simp only [Go.storeCells, Sem.run_bind, Addr.add_lit, h1, Result.andThen_ok, h3]
    · rw [hset_hset] at h4
      exact h4
theorem Mem.storeVar (hm : Mem E M G w) {b o n : Nat} {cs : List V} (hb : hget G b = some (.vars cs)) {t : TypeId} (ht : tsz P t = some n) {x : V} {v : Value} (hp : plainV x = true) (hr : Rep M x v) (hl : (cellsV x).length = n) (hs : (cellsV x).all scalarV = true) (ho : o + n ≤ cs.length) :
    ∃ w', (Instr.storeAt t (.pointer (some ⟨b, o, none⟩)) v).run P w = .ok () w' ∧ Mem E M (hset G b (.vars (setMany cs o (cellsV x)))) w' := by
  have hc := plainV_cells hp hr
  obtain ⟨w', h1, h2⟩ := Mem.storeCells (P := P) hc hs hm hb o 0 (by omega)
  refine ⟨w', ?_, h2⟩
  have hsz : v.cells.size = n := by have := hc.1; rw [hl] at this; simpa using this.symm
  simp only [Instr.storeAt, Instr.sureAddr, Sem.run_bind, Sem.run_pure, Result.andThen_ok, Go.storeVar, run_sizeOf ht, hsz, ne_eq, not_true_eq_false, if_false]
  exact h1
end

/-! ### the operations that do something -/
abbrev Kv := V → Heap → Prop
abbrev Kf := Frame → Heap → Prop
/-- A call by a value: which function, and what it holds. -/
def callee (f : FF) : Operand → Option (FuncId × List V × List V)
  | .func g => some (g, [], [])
  | o => match ev f o with
    | some (.func (.func g) xs ys) => some (g, xs, ys)
    | _ => none
/-- What an append asks. -/
def appC (n k : Nat) (z : V) (es ys : List (List V)) : Prop :=
  plainV z = true ∧ (cellsV z).length = n ∧ 0 < n ∧ wid n es ∧ wid n ys ∧ sca ys ∧ (es.length + ys.length) * k ≤ 140737488355328 ∧ es.length + ys.length ≤ 9223372036854775807
/-- What an append answers: nothing is appended; or the room behind is the call's own; or there is none. -/
def appK (G : Heap) (n : Nat) (es ys : List (List V)) (nl : Bool) (t : Tag) (K : Kv) : Prop :=
  (ys = [] → K (.sl es nl t) G) ∧ (ys ≠ [] → match t with
    | .no => False
    | .full => ∀ b e c, hget G b = none → K (.sl (es ++ ys) false (.top n b e c)) ((b, .top e c) :: G)
    | .top s b0 e0 c0 => (s = n ∧ hget G b0 = some (.top e0 c0)) ∧ ∀ b e c, (hget G b = none ∨ b = b0) → K (.sl (es ++ ys) false (.top n b e c)) ((b, .top e c) :: hdel G b0))
def fx (P : Program) (f : FF) (G : Heap) (op : Op) (K : Kv) : Prop :=
  match op with
  | .alloc t => match tzero P t with
    | some z => plainV z = true ∧ ∀ b, hget G b = none → K (.ptr b 0) ((b, .vars (cellsV z)) :: G)
    | none => False
  | .box t x => match ev f x with
    | some X => plainV X = true ∧ ∀ b, hget G b = none → K (.ptr b 0) ((b, .vars (cellsV X)) :: G)
    | none => False
  | .store t p x => match ev f p, ev f x, tsz P t with
    | some (.ptr b z), some X, some n => match hget G b with
      | some (.vars cs) => (plainV X = true ∧ (cellsV X).all scalarV = true ∧ (cellsV X).length = n ∧ z + n ≤ cs.length) ∧ K .any (hset G b (.vars (setMany cs z (cellsV X))))
      | _ => False
    | _, _, _ => False
  | .call { callee := .value c, args := as, argTypes := _ } => match callee f c, evL f as.toList with
    | some (g, xs, ys), some zs => ACall P g (xs ++ zs ++ ys) K G
    | _, _ => False
  | .call { callee := .builtin .append, args := as, argTypes := ts } => match as.toList, ts.toList with
    | [x, y], [tx, ty] => match ev f x, ev f y, tslice P tx with
      | some (.sl es nl t), some Y, some (e, n) => match srcV P ty Y, tbytes P e, tzero P e with
        | some ys, some k, some z => appC n k z es ys ∧ appK G n es ys nl t K
        | _, _, _ => False
      | _, _, _ => False
    | _, _ => False
  | .makeSlice t l c => match ev f l, ev f c, tslice P t with
    | some (.int _ l), some (.int _ c), some (e, n) => match tbytes P e, tzero P e with
      | some k, some z => (plainV z = true ∧ (cellsV z).length = n ∧ 0 ≤ l ∧ l ≤ c ∧ c * k ≤ 281474976710656 ∧ c ≤ 9223372036854775807) ∧ ∀ b, hget G b = none → K (.ms b 0 l.toNat c.toNat) ((b, .vars (List.replicate c.toNat (cellsV z)).flatten) :: G)
      | _, _ => False
    | _, _, _ => False
  | .makeMap t none => ∀ b, hget G b = none → K (.map b) ((b, .map []) :: G)
  | .mapUpdate t m k x => match ev f m, ev f k, ev f x, tmap P t with
    | some (.map b), some KK, some X, some (kt, _) => match hget G b with
      | some (.map kvs) => match mfind KK kvs 0 with
        | some r => simpleKey P kt KK = true ∧ K .any (hset G b (.map (mput kvs KK X r)))
        | none => False
      | _ => False
    | _, _, _, _ => False
  | .insert t m k x => match ev f m, ev f k, ev f x, tmap P t with
    | some (.map b), some KK, some X, some (kt, _) => match hget G b with
      | some (.map kvs) => match mfind KK kvs 0 with
        | some r => simpleKey P kt KK = true ∧ K .any (hset G b (.map (mput kvs KK X r)))
        | none => False
      | _ => False
    | _, _, _, _ => False
  | _ => False
def stepV (P : Program) (f : FF) (G : Heap) (op : Op) (K : Kv) : Prop :=
  match qv P f G op with
  | some (C, x) => C ∧ K x G
  | none => fx P f G op K
def dstOk (N : Nat) (o : Oper) : Bool := match o.dst with | some d => decide (d < N) | none => true

section
variable {P : Program} {E : Env} {M : PM} {G : Heap} {w : World} {f : FF} {a : Act} {N : Nat}
theorem fx_mono {op : Op} {K K' : Kv} (hk : ∀ x G, K x G → K' x G) (h : fx P f G op K) : fx P f G op K' := by
  unfold fx at h ⊢
  split at h
  · split at h
    · exact ⟨h.1, fun b hb => hk _ _ (h.2 b hb)⟩
    · exact h
  · split at h
    · exact ⟨h.1, fun b hb => hk _ _ (h.2 b hb)⟩
    · exact h
  · split at h
    · split at h
      · exact ⟨h.1, hk _ _ h.2⟩
      · exact h
    · exact h
  · split at h
    · exact h.mono hk
    · exact h
  · split at h
    · split at h
      · split at h
        · refine ⟨h.1, fun q => hk _ _ (h.2.1 q), fun q => ?_⟩
          have h2 := h.2.2 q
          split at h2
          · exact h2
          · exact fun b e c hb => hk _ _ (h2 b e c hb)
          · exact ⟨h2.1, fun b e c hb => hk _ _ (h2.2 b e c hb)⟩
        · exact h
      · exact h
    · exact h
  · split at h
    · split at h
      · exact ⟨h.1, fun b hb => hk _ _ (h.2 b hb)⟩
      · exact h
    · exact h
  · exact fun b hb => hk _ _ (h b hb)
  · split at h
    · split at h
      · split at h
        · exact ⟨h.1, hk _ _ h.2⟩
        · exact h
      · exact h
    · exact h
  · split at h
    · split at h
      · split at h
        · exact ⟨h.1, hk _ _ h.2⟩
        · exact h
      · exact h
    · exact h
  · exact h
theorem stepV_mono {op : Op} {K K' : Kv} (hk : ∀ x G, K x G → K' x G) (h : stepV P f G op K) : stepV P f G op K' := by
  unfold stepV at h ⊢
  split at h
  · exact ⟨h.1, hk _ _ h.2⟩
  · exact fx_mono hk h
/-- What an operation's continuation is owed. -/
def Owed (P : Program) (E : Env) (M : PM) (N : Nat) (f : FF) (d : Option Tmp) (K : Kv) (next : Act → World → Prop) : Prop :=
  ∀ M' x G' (a' : Act) w', M.le M' → Mem E M' G' w' → RepG M' (upd f d x) a'.tmps → a'.tmps.size = N → a'.defers = [] → K x G' → next a' w'
theorem put_frame (hf : RepG M f a.tmps) (hn : a.tmps.size = N) (hd : a.defers = []) {o : Oper} (ho : dstOk N o = true) {x : V} {v : Value} (hr : Rep M x v) :
    RepG M (upd f o.dst x) (a.put o.dst v).tmps ∧ (a.put o.dst v).tmps.size = N ∧ (a.put o.dst v).defers = [] := by
  unfold dstOk at ho
  cases hdst : o.dst with
  | none => exact ⟨hf, hn, hd⟩
  | some d =>
    rw [hdst] at ho
    have ho : d < N := of_decide_eq_true ho
    exact ⟨hf.put (by rw [hn]; exact ho) hr, by simpa [Act.put] using hn, hd⟩
theorem callee_ok (hf : RepG M f a.tmps) {c : Operand} {g : FuncId} {xs ys : List V} (h : callee f c = some (g, xs, ys)) : ∃ us vs : Array Value, a.eval c = .func (.func g) us vs ∧ RepL M xs us.toList ∧ RepL M ys vs.toList := by
  unfold callee at h
  split at h
  · cases h; exact ⟨#[], #[], rfl, RepL.nil, RepL.nil⟩
  · split at h
    · rename_i hx
      cases h
      obtain ⟨us, vs, h1, h2, h3⟩ := func_inv (ev_rep hf hx)
      exact ⟨us, vs, h1, h2, h3⟩
    · cases h
theorem fx_ok {o : Oper} {K : Kv} {fe : FF} (h : fx P fe G o.op K) (hm : Mem E M G w) (hfe : RepG M fe a.tmps) (hf : RepG M f a.tmps) (hn : a.tmps.size = N) (hd : a.defers = []) (ho : dstOk N o = true) {next : Act → World → Prop} {Q' : Exit → Act → World → Prop} (hnext : Owed P E M N f o.dst K next) :
    o.upon P a next Q' ((execOp a.eval o).run P w) := by
  unfold fx at h
  split at h
  · rename_i t hop
    split at h
    · rename_i z hz
      obtain ⟨hp, h⟩ := h
      obtain ⟨zv, hzv, hzr⟩ := run_zeroValue hz w
      obtain ⟨hg, hmem⟩ := hm.new_vars hp (hzr M) t
      have hrun : (execOp a.eval o).run P w = .ok (.value (.pointer (some ⟨w.heap.size, 0, none⟩))) (w.alloc (.cells zv.cells t)) := by
        simp only [execOp, hop, Instr.alloc, Sem.run_bind, hzv, Result.andThen_ok, newVar, newRow, run_newObj, Sem.run_pure]
        rfl
      rw [hrun, Oper.upon_value]
      obtain ⟨q1, q2, q3⟩ := put_frame hf hn hd ho (Rep.ptr (M := M) w.heap.size 0)
      exact hnext M _ _ _ _ M.le_refl hmem q1 q2 q3 (h _ hg)
    · exact h.elim
  · rename_i t x hop
    split at h
    · rename_i X hx
      obtain ⟨hp, h⟩ := h
      have hr := ev_rep hfe hx
      obtain ⟨hg, hmem⟩ := hm.new_vars hp hr t
      have hrun : (execOp a.eval o).run P w = .ok (.value (.pointer (some ⟨w.heap.size, 0, none⟩))) (w.alloc (.cells (a.eval x).cells t)) := by
        simp only [execOp, hop, Instr.box, Sem.run_bind, newVar, newRow, run_newObj, Result.andThen_ok, Sem.run_pure]
        rfl
      rw [hrun, Oper.upon_value]
      obtain ⟨q1, q2, q3⟩ := put_frame hf hn hd ho (Rep.ptr (M := M) w.heap.size 0)
      exact hnext M _ _ _ _ M.le_refl hmem q1 q2 q3 (h _ hg)
    · exact h.elim
  · rename_i t p x hop
    split at h
    · rename_i b z X n hp hx ht
      split at h
      · rename_i cs hb
        obtain ⟨⟨h1, h2, h3, h4⟩, h⟩ := h
        have hr := ev_rep hfe hx
        have he := (ev_rep hfe hp).ptr_inv
        obtain ⟨w', g1, g2⟩ := hm.storeVar hb ht h1 hr h3 h2 h4
        have hrun : (execOp a.eval o).run P w = .ok .skip w' := by
          simp only [execOp, hop, he, Sem.run_bind, g1, Result.andThen_ok, Sem.run_pure]
        rw [hrun, Oper.upon_skip]
        obtain ⟨q1, q2, q3⟩ := put_frame hf hn hd ho (Rep.any (M := M) undef)
        exact hnext M _ _ _ _ M.le_refl g2 q1 q2 q3 h
      · exact h.elim
    · exact h.elim
  · rename_i c as ts hop
    split at h
    · rename_i g xs ys zs hc has
      obtain ⟨us, vs, he, r1, r2⟩ := callee_ok hfe hc
      have hrun : (execOp a.eval o).run P w = (callFunc g (us ++ as.map a.eval ++ vs)).run P w := by
        simp only [execOp, hop, resolve, he, Deferred.ofValue, Sem.run_bind, Sem.run_pure, Result.andThen_ok, invoke]
      rw [hrun]
      have hl : RepL M (xs ++ zs ++ ys) (us ++ as.map a.eval ++ vs).toList := by
        have := (r1.append (by simpa using evL_rep hfe has)).append r2
        simpa using this
      refine h E M w _ hm hl o a next Q' fun v w' hv => ?_
      obtain ⟨M', G', x, k1, k2, k3, k4⟩ := hv
      obtain ⟨q1, q2, q3⟩ := put_frame (hf.mono k1) hn hd ho k3
      exact hnext M' _ _ _ _ k1 k2 q1 q2 q3 k4
    · exact h.elim
  · rename_i as ts hop
    split at h
    · rename_i x y tx ty has hts
      have has' : as = #[x, y] := by apply Array.ext'; simpa using has
      have hts' : ts = #[tx, ty] := by apply Array.ext'; simpa using hts
      subst has'; subst hts'
      split at h
      · rename_i es nl t Y e n hx hy ht
        split at h
        · rename_i ys k z hsrc hk hz
          obtain ⟨⟨c1, c2, c3, c4, c5, c6, c7, c8⟩, hK1, hK2⟩ := h
          obtain ⟨M', w', v, r1, r2, r3⟩ := append_ok (rt := o.type) hm (ev_rep hfe hx) (ev_rep hfe hy) ht hsrc hk hz c1 c2 c3 c4 c5 c6 c7 c8 (fun q => by
            have := hK2 q
            split at this
            · exact this.elim
            · trivial
            · exact this.1)
          have hrun : (execOp a.eval o).run P w = .ok (.value v) w' := by
            simp only [execOp, hop, resolve, invoke, builtin, Sem.run_bind, Sem.run_pure, Result.andThen_ok, List.map_toArray, List.map_cons, List.map_nil, r2]
          rw [hrun, Oper.upon_value]
          rcases r3 with ⟨hnil, rfl, rfl, rfl⟩ | ⟨hne, b', e', c', hrep, hmem⟩
          · obtain ⟨q1, q2, q3⟩ := put_frame hf hn hd ho (ev_rep hfe hx)
            exact hnext _ _ _ _ _ r1 hm q1 q2 q3 (hK1 hnil)
          · have hk2 := hK2 hne
            obtain ⟨q1, q2, q3⟩ := put_frame (hf.mono r1) hn hd ho hrep
            split at hk2
            · exact hk2.elim
            · rcases hmem with ⟨g1, g2⟩ | ⟨s, e0, g1, g2⟩
              · exact hnext _ _ _ _ _ r1 g2 q1 q2 q3 (hk2 _ _ _ g1)
              · cases g1
            · rename_i s b0 e0 c0
              rcases hmem with ⟨g1, g2⟩ | ⟨s', e0', g1, g2⟩
              · refine hnext _ _ _ _ _ r1 (g2.sub fun b ob hob => ?_) q1 q2 q3 (hk2.2 _ _ _ (.inl g1))
                rw [hget_cons] at hob ⊢
                split at hob
                · rename_i hbb; rw [if_pos hbb]; exact hob
                · rename_i hbb; rw [if_neg hbb]; exact (hget_hdel hob).2
              · cases g1
                exact hnext _ _ _ _ _ r1 g2 q1 q2 q3 (hk2.2 _ _ _ (.inr rfl))
        · exact h.elim
      · exact h.elim
    · exact h.elim
  · rename_i t l c hop
    split at h
    · rename_i kl lv kc cv e n hl hc ht
      split at h
      · rename_i k z hk hz
        obtain ⟨⟨c1, c2, c3, c4, c5, c6⟩, hK⟩ := h
        have el := (ev_rep hfe hl).int_inv
        have ec := (ev_rep hfe hc).int_inv
        obtain ⟨zv, hzv, hzr⟩ := run_zeroValue hz w
        obtain ⟨hu, hs⟩ := tslice_info ht
        obtain ⟨i, hi, hin⟩ := tsz_info hs
        have hbytes : i.bytes = k := by unfold tbytes at hk; rw [hi] at hk; simpa using hk
        obtain ⟨ln, rfl⟩ := Int.eq_ofNat_of_zero_le c3
        obtain ⟨cn, rfl⟩ := Int.eq_ofNat_of_zero_le (Int.le_trans c3 c4)
        have hzc := plainV_cells c1 (hzr M)
        have hz0 : ∃ zs : Array Value, ((if cn * n = 0 then Pure.pure #[] else do let x ← zeroValue e; Pure.pure x.cells : Sem (Array Value))).run P w = .ok zs w ∧ (cn * n ≠ 0 → zs = zv.cells) := by
          by_cases h0 : cn * n = 0
          · exact ⟨#[], by rw [if_pos h0]; rfl, fun q => absurd h0 q⟩
          · refine ⟨zv.cells, ?_, fun _ => rfl⟩
            rw [if_neg h0]
            simp only [Sem.run_bind, hzv, Result.andThen_ok, Sem.run_pure]
        obtain ⟨zs, hzs1, hzs2⟩ := hz0
        have hfill := zero_fill (M := M) (len := cn) hzc c2 hzs2
        have hw1 : IntKind.i64.wrap (ln : Int) = ln := by unfold IntKind.wrap; simp only [IntKind.bits, IntKind.signed]; simp; omega
        have hw2 : IntKind.i64.wrap (cn : Int) = cn := by unfold IntKind.wrap; simp only [IntKind.bits, IntKind.signed]; simp; omega
        have hgn : hget G w.heap.size = none := by
          cases hq : hget G w.heap.size with
          | none => rfl
          | some ob => have := (hm.obj _ _ hq).2.lt; omega
        have ha := hm.alloc (.cells ((Array.range (cn * n)).map (fun i => zs[i % zs.size]!)) e)
        have hmem : Mem E M ((w.heap.size, .vars (List.replicate cn (cellsV z)).flatten) :: G) (w.alloc (.cells ((Array.range (cn * n)).map (fun i => zs[i % zs.size]!)) e)) := by
          refine ⟨ha.below, ha.base, ha.pm, fun b ob hob => ?_⟩
          rw [hget_cons] at hob
          by_cases hbb : w.heap.size = b
          · subst hbb
            rw [if_pos rfl] at hob
            cases hob
            refine ⟨hm.size, (Array.range (cn * n)).map (fun i => zs[i % zs.size]!), e, (0, 0), by show (w.heap.push _)[w.heap.size]? = _; simp, by have := hfill.1; rw [this]; simp, fun i hi => ?_, fun i _ _ h => by omega, fun o => hm.none_new (Nat.le_refl _) o⟩
            have := hfill.2 i hi
            rw [List.getD_eq_getElem?_getD, Array.getElem?_toList] at this
            rw [Array.getD_eq_getD_getElem?]; exact this
          · rw [if_neg hbb] at hob; exact ha.obj _ _ hob
        have hrun : (execOp a.eval o).run P w = .ok (.value (.slice (some ⟨w.heap.size, 0, none⟩) ln cn)) (w.alloc (.cells ((Array.range (cn * n)).map (fun i => zs[i % zs.size]!)) e)) := by
          have t1 : ¬ ((i.bytes : Int) * (cn : Int) > 2 ^ 48) := by rw [hbytes, Int.mul_comm]; omega
          have t2 : ¬ ((cn : Int) < 0) := by omega
          have t3 : ¬ ((ln : Int) < 0) := by omega
          have t4 : ¬ ((ln : Int) > (cn : Int)) := by omega
          simp only [execOp, hop, el, ec, Instr.makeSlice, Sem.run_bind, run_underlying hu, Result.andThen_ok, asInt, asIntOf, Sem.run_pure, typeInfo, run_program, hi, hw1, hw2, Int.toNat_natCast, run_sizeOf hs, run_askRoom, newRow, run_newObj, t1, t2, t3, t4, decide_false, Bool.or_self, Bool.false_eq_true, if_false]
          by_cases h0 : cn * n = 0
          · rw [if_pos h0] at hzs1 ⊢
            simp only [Sem.run_pure, Result.ok.injEq, and_true] at hzs1
            subst hzs1
            simp only [Sem.run_bind, Sem.run_pure, Result.andThen_ok, run_newObj]
            rfl
          · rw [if_neg h0] at hzs1 ⊢
            simp only [Sem.run_bind, hzv, Sem.run_pure, Result.andThen_ok, Result.ok.injEq, and_true] at hzs1
            subst hzs1
            simp only [Sem.run_bind, hzv, Sem.run_pure, Result.andThen_ok, run_newObj]
            rfl
        rw [hrun, Oper.upon_value]
        obtain ⟨q1, q2, q3⟩ := put_frame hf hn hd ho (Rep.ms (M := M) w.heap.size 0 ln cn (by omega))
        exact hnext M _ _ _ _ M.le_refl hmem q1 q2 q3 (hK _ hgn)
      · exact h.elim
    · exact h.elim
  · rename_i t hop
    obtain ⟨hg, hmem⟩ := hm.new_map
    have hrun : (execOp a.eval o).run P w = .ok (.value (.map (some w.heap.size))) (w.alloc (.map #[] 0)) := by
      simp only [execOp, hop, Option.map_none]
      rfl
    rw [hrun, Oper.upon_value]
    obtain ⟨q1, q2, q3⟩ := put_frame hf hn hd ho (Rep.map (M := M) w.heap.size)
    exact hnext M _ _ _ _ M.le_refl hmem q1 q2 q3 (h _ hg)
  · rename_i t m k x hop
    split at h
    · rename_i b KK X kt z hmv hkv hxv ht
      split at h
      · rename_i kvs hb
        split at h
        · rename_i r hf2
          obtain ⟨hs, h⟩ := h
          have he := (ev_rep hfe hmv).map_inv
          obtain ⟨w', g1, g2⟩ := put_ok (X := X) hm hb ht hs (ev_rep hfe hkv) (ev_rep hfe hxv) hf2
          have hrun : (execOp a.eval o).run P w = .ok .skip w' := by
            simp only [execOp, hop, he, Sem.run_bind, g1, Result.andThen_ok, Sem.run_pure]
          rw [hrun, Oper.upon_skip]
          obtain ⟨q1, q2, q3⟩ := put_frame hf hn hd ho (Rep.any (M := M) undef)
          exact hnext M _ _ _ _ M.le_refl g2 q1 q2 q3 h
        · exact h.elim
      · exact h.elim
    · exact h.elim
  · rename_i t m k x hop
    split at h
    · rename_i b KK X kt z hmv hkv hxv ht
      split at h
      · rename_i kvs hb
        split at h
        · rename_i r hf2
          obtain ⟨hs, h⟩ := h
          have he := (ev_rep hfe hmv).map_inv
          obtain ⟨w', g1, g2⟩ := put_ok (X := X) hm hb ht hs (ev_rep hfe hkv) (ev_rep hfe hxv) hf2
          have hrun : (execOp a.eval o).run P w = .ok .skip w' := by
            simp only [execOp, hop, he, Sem.run_bind, g1, Result.andThen_ok, Sem.run_pure]
          rw [hrun, Oper.upon_skip]
          obtain ⟨q1, q2, q3⟩ := put_frame hf hn hd ho (Rep.any (M := M) undef)
          exact hnext M _ _ _ _ M.le_refl g2 q1 q2 q3 h
        · exact h.elim
      · exact h.elim
    · exact h.elim
  · exact h.elim
theorem stepV_ok {o : Oper} {K : Kv} {fe : FF} (h : stepV P fe G o.op K) (hm : Mem E M G w) (hfe : RepG M fe a.tmps) (hf : RepG M f a.tmps) (hn : a.tmps.size = N) (hd : a.defers = []) (ho : dstOk N o = true) {next : Act → World → Prop} {Q' : Exit → Act → World → Prop} (hnext : Owed P E M N f o.dst K next) :
    o.upon P a next Q' ((execOp a.eval o).run P w) := by
  unfold stepV at h
  split at h
  · rename_i C x hq
    obtain ⟨M', w', v, h1, h2, h3, h4⟩ := qv_ok hq h.1 hm hfe
    rw [h4, Oper.upon_value]
    obtain ⟨q1, q2, q3⟩ := put_frame (hf.mono h1) hn hd ho h3
    exact hnext M' _ _ _ _ h1 h2 q1 q2 q3 h.2
  · exact fx_ok h hm hfe hf hn hd ho hnext
end

/-! ### regions in one order -/
/-- The variable that a guard looks at. -/
def gtmp (ops : List Oper) (j : Nat) : Option Tmp := (ops[j]?).bind (·.dst)
/-- An operation under a guard. -/
def gstep (P : Program) (g : Bool) (f : FF) (G : Heap) (op : Op) (K : Kv) : Prop :=
  match qv P (unF g f) G op with
  | some (C, x) => (g = true → C) ∧ K (.opt g x) G
  | none => (g = true → fx P (unF g f) G op (fun x G => K (.opt g x) G)) ∧ (g = false → ∃ x, K (.opt g x) G)
def rg (P : Program) (ops : List Oper) : List Oper → Frame → Heap → Kf → Prop
  | [], f, G, K => K f G
  | o :: os, f, G, K => match o.guard with
    | none => stepV P (fget f) G o.op (fun x G => rg P ops os (fput f o.dst x) G K)
    | some (j, want) => match gtmp ops j with
      | some d => match (fget f d).bind (gcond want) with
        | some g => gstep P g (fget f) G o.op (fun x G => rg P ops os (fput f o.dst x) G K)
        | none => False
      | none => False
theorem wanted_of {M : PM} {ops : List Oper} {o : Oper} {j : Nat} {want : Bool} {d : Tmp} {g : Bool} {f : FF} {t : Array Value} (hf : RepG M f t) (ho : o.guard = some (j, want)) (hgt : gtmp ops j = some d) (hv : (f d).bind (gcond want) = some g) : Region.wanted o (yielded ops.toArray t) = g := by
  cases hx : f d with
  | none => rw [hx] at hv; cases hv
  | some x =>
    rw [hx] at hv
    obtain ⟨h1, h2⟩ := hf d _ hx
    unfold gtmp at hgt
    have e0 : ((ops.toArray[j]?).bind (·.dst)).bind (t[·]?) = some (t.getD d undef) := by
      have e1 : ops.toArray[j]? = ops[j]? := by simp
      rw [e1, hgt, Option.bind_some, Array.getElem?_eq_getElem h1, Array.getD_eq_getD_getElem?, Array.getElem?_eq_getElem h1]; rfl
    generalize t.getD d undef = val at h2 e0
    simp only [Option.bind_some] at hv
    unfold gcond at hv
    split at hv
    · rename_i b
      cases hv
      have h3 := h2.bool_inv
      have hy : yielded ops.toArray t j = some b := by unfold yielded; rw [e0, h3]
      simp only [Region.wanted, ho, hy]
      cases b <;> cases want <;> rfl
    · rename_i g' b
      cases hv
      cases h2 with
      | optT x v h2 =>
        rename_i hval
        have h3 := h2.bool_inv
        have hy : yielded ops.toArray t j = some b := by unfold yielded; rw [e0, h3]
        simp only [Region.wanted, ho, hy]
        cases b <;> cases want <;> rfl
      | optF x =>
        have hy : yielded ops.toArray t j = none := by unfold yielded; rw [e0]; simp_all [undef]
        simp only [Region.wanted, ho, hy]
        rfl
    · cases hv
theorem RepG.same {M : PM} {f : FF} {t : Array Value} {d : Nat} {x : V} (hf : RepG M f t) (hd : f d = some x) : RepG M (upd f (some d) x) t := by
  intro i u k
  simp only [upd] at k
  by_cases e : d = i
  · subst e; rw [if_pos rfl] at k; cases k; exact hf _ _ hd
  · rw [if_neg e] at k; exact hf _ _ k
theorem RepG.optT {M : PM} {f : FF} {t : Array Value} {d : Option Tmp} {x : V} (hf : RepG M (upd f d x) t) : RepG M (upd f d (.opt true x)) t := by
  intro i u k
  cases d with
  | none => exact hf i u k
  | some d =>
    simp only [upd] at k
    by_cases e : d = i
    · subst e; rw [if_pos rfl] at k; cases k
      obtain ⟨h1, h2⟩ := hf d x (by simp [upd])
      exact ⟨h1, .optT _ _ h2⟩
    · rw [if_neg e] at k; exact hf i u (by simp [upd, e, k])
section
variable {P : Program} {N : Nat} {Q : Cont} {f : Frame} {G : Heap}
theorem stepV_frame {f f' : FF} (he : f = f') {G : Heap} {op : Op} {K : Kv} (h : stepV P f G op K) : stepV P f' G op K := he ▸ h
/-- What a guarded operation does, where its guard is met: as one without a guard, of what stands there then. -/
theorem gstep_true {f : FF} {op : Op} {K : Kv} (h : gstep P true f G op K) : stepV P (unF true f) G op (fun x G => K (.opt true x) G) := by
  unfold gstep at h
  unfold stepV
  split at h
  · exact ⟨h.1 rfl, h.2⟩
  · exact h.1 rfl
theorem gstep_false {f : FF} {op : Op} {K : Kv} (h : gstep P false f G op K) : ∃ x, K (.opt false x) G := by
  unfold gstep at h
  split at h
  · exact ⟨_, h.2⟩
  · exact h.2 rfl
theorem rg_ok {ops : List Oper} {E : Env} {Q' : Exit → Act → World → Prop} : ∀ {l : List Oper} {f : Frame} {G : Heap} {K : Kf} {M : PM} {w : World} {a : Act}, rg P ops l f G K → l.all (dstOk N) = true → Mem E M G w → RepF M f a.tmps → a.tmps.size = N → a.defers = [] →
    (∀ M' f' G' (a' : Act) w', M.le M' → Mem E M' G' w' → RepF M' f' a'.tmps → a'.tmps.size = N → a'.defers = [] → K f' G' → Q' .normal a' w') → wpList P ops.toArray Q' l a w
  | [], f, G, K, M, w, a, h, ha, hm, hf, hn, hd, hq => hq M f G a w M.le_refl hm hf hn hd (by simpa [rg] using h)
  | o :: os, f, G, K, M, w, a, h, ha, hm, hf, hn, hd, hq => by
    simp only [List.all_cons, Bool.and_eq_true] at ha
    unfold rg at h
    unfold wpList
    cases hg : o.guard with
    | none =>
      rw [hg] at h
      rw [if_pos (by simp [Region.wanted, hg])]
      exact .inl (stepV_ok (N := N) h hm hf hf hn hd ha.1 fun M' x G' a' w' k1 k2 k3 k4 k5 k6 =>
        rg_ok k6 ha.2 k2 (by rw [RepF, fget_fput]; exact k3) k4 k5 fun M2 f2 G2 a2 w2 j1 j2 j3 j4 j5 j6 => hq M2 f2 G2 a2 w2 (PM.le_trans k1 j1) j2 j3 j4 j5 j6)
    | some jw =>
      obtain ⟨j, want⟩ := jw
      rw [hg] at h
      simp only at h
      split at h
      · rename_i d hgt
        split at h
        · rename_i g hv
          have hw := wanted_of hf hg hgt hv
          rw [hw]
          cases g with
          | true =>
            rw [if_pos rfl]
            exact .inl (stepV_ok (N := N) (gstep_true h) hm (unF_rep hf) hf hn hd ha.1 fun M' x G' a' w' k1 k2 k3 k4 k5 k6 =>
              rg_ok k6 ha.2 k2 (by rw [RepF, fget_fput]; exact k3.optT) k4 k5 fun M2 f2 G2 a2 w2 j1 j2 j3 j4 j5 j6 => hq M2 f2 G2 a2 w2 (PM.le_trans k1 j1) j2 j3 j4 j5 j6)
          | false =>
            rw [if_neg (by simp)]
            obtain ⟨x, h2⟩ := gstep_false h
            obtain ⟨q1, q2, q3⟩ := put_frame hf hn hd ha.1 (Rep.optF (M := M) x)
            exact rg_ok h2 ha.2 hm (by rw [RepF, fget_fput]; exact q1) q2 q3 hq
        · exact h.elim
      · exact h.elim
theorem aw_region {id : Nat} {ops : List Oper} (hd : ops.all (dstOk N) = true) (h : rg P ops ops f G (fun f G => Q .normal f G)) : AW P N (.region id ops.toArray false) Q f G := by
  intro E M w a hm hr hn hdf
  refine wp_region_list (P := P) (ops := ops.toArray) ?_
  simp only
  exact rg_ok h hd hm hr hn hdf fun M' f' G' a' w' k1 k2 k3 k4 k5 k6 => ⟨M', f', G', k1, k2, k3, k4, k5, k6⟩
end
end Go.Proofs.YtomjghlaoncpbaaV
