/-
  That 'qv' tells what the machine answers: all operations together.
-/
import Derived.Test.YtomjghlaoncpbaaVi
import Derived.Test.YtomjghlaoncpbaaVda
import Derived.Test.YtomjghlaoncpbaaVhb
import Derived.Lib.ConvBytes
import Derived.Laws.BytesString
namespace Go.Proofs.YtomjghlaoncpbaaV
open Go.RowKit
set_option linter.unusedVariables false
set_option linter.unusedSimpArgs false

section
variable {P : Program} {E : Env} {M : PM} {G : Heap} {w : World} {f : FF} {a : Act}
theorem run_places : ∀ {l : List Field} {pl : List (Nat × Nat)}, placesL P l = some pl → (l.mapM (fun fd => (do Pure.pure (fd.offset, ← sizeOf fd.type) : Sem (Nat × Nat)))).run P w = .ok pl w
  | [], pl, h => by simp [placesL] at h; subst h; rfl
  | fd :: l, pl, h => by
    simp only [placesL] at h
    split at h
    · rename_i n pl' h1 h2
      cases h
      simp only [List.mapM_cons, Sem.run_bind, run_sizeOf h1, Result.andThen_ok, Sem.run_pure, run_places h2]
    · cases h
theorem fill_weaken {p q : Nat → Option (Nat × Nat)} (hpq : ∀ i x, p i = some x → q i = some x) : ∀ {ps : List (Nat × Value)} {cs cs' : Array Value}, Instr.fill p cs ps = some cs' → Instr.fill q cs ps = some cs'
  | [], cs, cs', h => h
  | (i, v) :: ps, cs, cs', h => by
    simp only [Instr.fill] at h ⊢
    split at h
    · cases h
    · rename_i off n hp
      rw [hpq i _ hp]
      simp only
      split at h
      · cases h
      · rename_i hc
        rw [if_neg hc]
        exact fill_weaken hpq h
theorem ans_build {t : TypeId} {ps : Array (Nat × Operand)} {cs cs' : List V} {pl : List (Nat × Nat)} (hm : Mem E M G w) (hf : RepG M f a.tmps) (hz : tzero P t = some (.agg cs)) (hp : tplaces P t = some pl)
    (h : fillC (fun i => pl[i]?) f cs ps.toList = some cs') : Ans P E M G w (Instr.build t (ps.map fun (i, x) => (i, a.eval x))) (.agg cs') := by
  obtain ⟨zv, hzv, hzr⟩ := run_zeroValue hz w
  obtain ⟨zs, rfl, hzl⟩ := (hzr M).agg_inv
  have hps : (ps.map fun (i, x) => (i, a.eval x)).toList = ps.toList.map fun (i, x) => (i, a.eval x) := by simp
  have hcs : (Value.agg zs).cells = zs := rfl
  obtain ⟨vs', h1, h2⟩ := fillC_rep hf h hzl
  refine .pure hm (h2.agg) ?_
  unfold tplaces at hp
  split at hp
  · rename_i fs hu
    have hrun : (fs.mapM (fun fd => (do Pure.pure (fd.offset, ← sizeOf fd.type) : Sem (Nat × Nat)))).run P w = .ok pl.toArray w := by
      have := run_places (w := w) hp
      rw [← Array.toArray_toList (xs := fs), List.mapM_toArray, Sem.run_map, this]
      rfl
    simp only [Instr.build, Sem.run_bind, hzv, Result.andThen_ok, run_underlying hu, hps, hcs]
    rw [hrun]
    simp only [Result.andThen_ok]
    have e : (fun i : Nat => pl.toArray[i]?) = fun i => pl[i]? := by funext i; simp
    rw [e, h1]
    simp
  · rename_i l e hu
    split at hp
    · rename_i n hs
      simp only [Option.some.injEq] at hp
      have h1' := fill_weaken (q := fun i => some (i * n, n)) (fun i x hx => by
        subst hp
        rw [List.getElem?_map] at hx
        cases hq : (List.range l)[i]? with
        | none => rw [hq] at hx; cases hx
        | some k =>
          rw [hq] at hx
          have : i = k := by
            obtain ⟨_, e⟩ := List.getElem?_eq_some_iff.1 hq
            rw [List.getElem_range] at e; exact e
          subst this
          exact hx) h1
      simp only [Instr.build, Sem.run_bind, hzv, Result.andThen_ok, run_underlying hu, run_sizeOf hs, hps, hcs, h1']
      simp
    · cases hp
  · cases hp

theorem ans_conv {src dst : TypeId} {X x : V} {u : Value} {C : Prop} (hm : Mem E M G w) (hr : Rep M X u) (h : convV P src dst X = some (C, x)) (hC : C) : Ans P E M G w (convert src dst u) x := by
  unfold convV at h
  split at h
  · rename_i k n
    obtain rfl := hr.int_inv
    split at h
    · rename_i k' hk
      split at h
      · rename_i hs
        simp only [ok, Option.some.injEq, Prod.mk.injEq] at h
        obtain ⟨_, rfl⟩ := h
        obtain ⟨d, hd⟩ := Option.isSome_iff_exists.1 hs
        have hu : P.underlying dst = some (.int k') := by
          unfold intKindOf at hk
          split at hk
          · rename_i k2 hk2; cases hk; exact hk2
          · cases hk
        refine .pure hm (.int k' _) ?_
        simp only [convert, Sem.run_bind, run_underlying hd, run_underlying hu, Result.andThen_ok]
        rfl
      · cases h
    · cases h
  · rename_i s
    obtain rfl := hr.str_inv
    split at h
    · rename_i hs
      split at h
      · rename_i hsrc
        simp only [ok, Option.some.injEq, Prod.mk.injEq] at h
        obtain ⟨_, rfl⟩ := h
        obtain ⟨d, hd⟩ := Option.isSome_iff_exists.1 hsrc
        refine .pure hm (.str s) ?_
        simp only [convert, Sem.run_bind, run_underlying hd, run_underlying (isStr_info hs), Result.andThen_ok]
        rfl
      · cases h
    · split at h
      · rename_i hu8
        split at h
        · rename_i hsrc
          simp only [ok, Option.some.injEq, Prod.mk.injEq] at h
          obtain ⟨_, rfl⟩ := h
          obtain ⟨e, he1, he2⟩ := isU8s_info hu8
          have hsz : (ByteArray.mk s.toArray).size = s.length := by show s.toArray.size = _; simp
          have hcap : s.length ≤ grownCap w (ByteArray.mk s.toArray).size 0 e := by have := grownCap_ge w (ByteArray.mk s.toArray).size 0 e; omega
          have hrun := Lib.run_convert_string_bytes w src dst e (ByteArray.mk s.toArray) (isStr_info hsrc) he1 he2
          have hwd : Lib.bytesWorld w e (ByteArray.mk s.toArray) = w.drew.alloc (.cells (Lib.bytesCells w e (ByteArray.mk s.toArray)) e ((Lib.bytesCells w e (ByteArray.mk s.toArray)).size, (Lib.bytesCells w e (ByteArray.mk s.toArray)).size + 1)) :=
            freeze_last w.drew _ e _
          rw [hwd] at hrun
          have hle := (hm.drew).le_add (w := w.drew) (Lib.bytesCells w e (ByteArray.mk s.toArray))
          refine ⟨_, _, _, hle, (hm.drew).lit (w := w.drew) _ e _, ?_, hrun⟩
          have hl : RepL (M.add w.drew.heap.size (Lib.bytesCells w e (ByteArray.mk s.toArray))) (bytesV s).flatten (s.map fun b => Value.int .u8 (b.toNat : Int)) := by
            generalize (M.add w.drew.heap.size (Lib.bytesCells w e (ByteArray.mk s.toArray))) = M2
            clear hrun hwd hle hcap hsz hr
            induction s with
            | nil => exact RepL.nil
            | cons b l ih => exact RepL.cons (.int .u8 _) ih
          have hwid : ∀ e ∈ bytesV s, e.length = 1 := by simp [bytesV]
          have := rep_sl_of_flat (b := w.drew.heap.size) (z := 0) (cap := grownCap w (ByteArray.mk s.toArray).size 0 e) (t := .no) hl hwid (fun i v hv => by
            rw [Nat.zero_add]
            refine PM.add_self ?_
            have hi : i < s.length := by
              rcases Nat.lt_or_ge i s.length with q | q
              · exact q
              · rw [List.getElem?_eq_none (by simpa using q)] at hv; cases hv
            unfold Lib.bytesCells
            rw [Array.getElem?_append_left (by simpa using hi)]
            simpa using hv) (by simpa using hcap) trivial
          rw [length_bytesV] at this
          rw [hsz] at this ⊢
          exact this
        · cases h
      · cases h
  · rename_i es nl tg
    split at h
    · rename_i hc
      simp only [Bool.and_eq_true] at hc
      obtain ⟨hs, hu8⟩ := hc
      simp only [Option.some.injEq, Prod.mk.injEq] at h
      obtain ⟨rfl, rfl⟩ := h
      obtain ⟨e, he1, he2⟩ := isU8s_info hu8
      have hvals : ∀ (l : List UInt8) (vs : List Value), RepL M (bytesV l).flatten vs → vs = (l.map fun b => ((b.toNat : Nat) : Int)).map (Value.int .u8) := by
        intro l
        induction l with
        | nil => intro vs hv; exact List.eq_nil_of_length_eq_zero hv.1.symm
        | cons b l ih =>
          intro vs hv
          match vs, hv with
          | [], hv => exact absurd hv.1 (by simp [bytesV])
          | v :: vs, hv =>
            have hb : v = .int .u8 (b.toNat : Int) := (RepL.head (c := V.int .u8 (b.toNat : Int)) hv).int_inv
            rw [hb, ih vs (RepL.tail (c := V.int .u8 (b.toNat : Int)) hv)]
            rfl
      have hfold : ∀ (l : List UInt8) (acc : ByteArray), ((l.map fun b => ((b.toNat : Nat) : Int)).foldl (fun r n => r.push (UInt8.ofNat n.toNat)) acc) = ⟨acc.data ++ l.toArray⟩ := by
        intro l
        induction l with
        | nil => intro acc; simp
        | cons b l ih =>
          intro acc
          simp only [List.map_cons, List.foldl_cons, Int.toNat_natCast, UInt8.ofNat_toNat]
          rw [ih]
          apply ByteArray.ext
          simp [ByteArray.push]
      rcases sl_cells hm hr with ⟨hnil, a0, c, rfl⟩ | ⟨b, z, c, sz, rfl, hc, _, he, hmem, _⟩
      · subst hnil
        refine .pure hm (.str _) ?_
        simp only [convert, Sem.run_bind, run_underlying he1, run_underlying he2, run_underlying (isStr_info hs), Result.andThen_ok, Conv.bytesToString]
        cases a0 with
        | none => rfl
        | some a0 => first | rfl | (simp [loadCells]; done) | (simp [loadCells]; rfl)
      · have hlen : (unb es).length = es.length := by simp [unb]
        have hw1 : ∀ e ∈ es, e.length = 1 := by rw [hC]; simp [bytesV]
        have hcells : CellsRep M w b z es.flatten := by
          refine ⟨(List.range es.length).map (fun i => ((w.cell? ⟨b, z + i, none⟩).getD undef)), ⟨by rw [flatten_length hw1]; simp, fun i hi => ?_⟩, fun i v hv => ?_⟩
          · have hi' : i < es.length := by rw [flatten_length hw1] at hi; omega
            obtain ⟨g, hg1, hg2⟩ := hmem i hi'
            have hs1 : sz = 1 := by rw [← he i hi']; exact hw1 _ (List.getElem_mem hi')
            subst hs1
            have h0 : 0 < (es[i]).length := by rw [he i hi']; omega
            have hfl := flatten_get hw1 hi' h0
            simp only [Nat.mul_one, Nat.add_zero] at hfl
            have e1 : es.flatten[i] = (es[i])[0] := by
              rw [List.getElem?_eq_getElem hi] at hfl; exact Option.some.inj hfl
            have hm0 := hm.pm _ _ _ (hg1 0 (by omega))
            simp only [Nat.mul_one, Nat.add_zero] at hm0
            rw [e1, List.getD_eq_getElem?_getD]
            simp only [List.getElem?_map, List.getElem?_range hi', Option.map_some, Option.getD_some, hm0]
            exact hg2 0 h0
          · rw [List.getElem?_map] at hv
            cases hq : (List.range es.length)[i]? with
            | none => rw [hq] at hv; cases hv
            | some k =>
              have hk : i < es.length ∧ k = i := by
                obtain ⟨h1, h2⟩ := List.getElem?_eq_some_iff.1 hq
                exact ⟨by simpa using h1, by simpa using h2.symm⟩
              obtain ⟨hi', rfl⟩ := hk
              obtain ⟨g, hg1, hg2⟩ := hmem k hi'
              have hs1 : sz = 1 := by rw [← he k hi']; exact hw1 _ (List.getElem_mem hi')
              subst hs1
              have hm0 := hm.pm _ _ _ (hg1 0 (by omega))
              simp only [Nat.mul_one, Nat.add_zero] at hm0
              rw [hq, Option.map_some, hm0] at hv
              simp only [Option.getD_some, Option.some.injEq] at hv
              rw [hm0, hv]
        obtain ⟨vs, hvs, hl⟩ := run_loadCells_rep (P := P) hcells
        rw [flatten_length hw1, Nat.mul_one] at hl
        rw [hC] at hvs
        rw [hvals _ _ hvs] at hl
        have hrun := run_bytesToString (P := P) w ⟨b, z, none⟩ es.length c _ hl
        rw [hfold] at hrun
        refine .pure hm (.str (unb es)) ?_
        rw [run_convert_bytes_string w src dst e _ _ _ he1 he2 (isStr_info hs), hrun]
        congr 2
        apply ByteArray.ext
        simp
    · cases h
  · cases h

theorem eqGuard_ok {op : BinOp} {t : TypeId} {x y : Operand} {A B : V} {u v : Value} {C : Prop} {r : V} (h : binV P op t A B = some (C, r)) (hA : Rep M A u) (hB : Rep M B v) : (eqGuard op t x y u v).run P w = .ok () w := by
  have hno : ¬ (u = .nilIface ∧ v = .nilIface) ∧ ¬ (∃ p q, u = .agg p ∧ v = .agg q) := by
    unfold binV at h
    split at h <;> first
      | (cases hA; refine ⟨?_, ?_⟩
         · rintro ⟨h1, h2⟩; cases h1
         · rintro ⟨p, q, h1, h2⟩; cases h1)
      | cases h
  unfold eqGuard
  repeat' split
  all_goals first
    | rfl
    | exact absurd ⟨rfl, rfl⟩ hno.1
    | exact absurd ⟨_, _, rfl, rfl⟩ hno.2

theorem ans_binOp {op : BinOp} {t : TypeId} {x y : Operand} {A B : V} {u v : Value} {C : Prop} {r : V} (hm : Mem E M G w) (h : binV P op t A B = some (C, r)) (hC : C) (hA : Rep M A u) (hB : Rep M B v) :
    Ans P E M G w (do eqGuard op t x y u v; binOp op t u v) r := by
  obtain ⟨z, hz, hr⟩ := run_binV (w := w) h hC hA hB
  refine .pure hm (hr M) ?_
  simp only [Sem.run_bind, eqGuard_ok h hA hB, Result.andThen_ok, hz]
theorem ans_makeInterface {t : TypeId} {X : V} {u : Value} (hm : Mem E M G w) (hr : Rep M X u) (hk : kindIs P t (fun d => !isIfaceT d) = true) : Ans P E M G w (Instr.makeInterface t u) (.iface t X) := by
  obtain ⟨d, hd, hk⟩ := kindIs_some hk
  refine .pure hm (.iface t X u hr) ?_
  simp only [Instr.makeInterface, Sem.run_bind, run_underlying hd, Result.andThen_ok]
  cases d <;> simp [isIfaceT] at hk <;> rfl
theorem ans_index_arr {t e : TypeId} {l : Nat} {cs : List V} {u : Value} {k : IntKind} {n : Int} (hm : Mem E M G w) (hr : Rep M (.agg cs) u) (ht : tarray P t = some (l, e, 1)) (hg : tagg P e = some false) (h0 : 0 ≤ n) (h1 : n < l) (hl : cs.length = l) :
    Ans P E M G w (Instr.index t u (.int k n)) (cs.getD n.toNat .any) := by
  obtain ⟨vs, rfl, hrl⟩ := hr.agg_inv
  obtain ⟨hu, hs⟩ := tarray_info ht
  obtain ⟨j, rfl⟩ := Int.eq_ofNat_of_zero_le h0
  have hj : j < cs.length := by omega
  obtain ⟨v, hv, hrv⟩ := run_part (P := P) (w := w) (t := e) (off := j * 1) (x := cs.getD j .any) hrl (by
    unfold cellsAt; simp only [hg, hs, Nat.mul_one]; simp [hj])
  refine .pure hm hrv ?_
  have h1' : (j : Int) < (l : Int) := h1
  simp only [Instr.index, asIntOf, Sem.run_bind, Sem.run_pure, Result.andThen_ok, run_underlying hu, run_sizeOf hs, Int.toNat_natCast]
  rw [if_pos ⟨h0, h1'⟩]
  simp only [Sem.run_bind, run_sizeOf hs, Result.andThen_ok, hv]
theorem run_min2 {k : IntKind} {x y : Int} : (Builtin.min2 (.int k x) (.int k y)).run P w = .ok (.int k (if y < x then y else x)) w := rfl
theorem run_max2 {k : IntKind} {x y : Int} : (Builtin.max2 (.int k x) (.int k y)).run P w = .ok (.int k (if y > x then y else x)) w := rfl

/-- An operation's answer, as the machine's step bears it. -/
theorem Ans.value {s : Sem Value} {x : V} {o : Oper} (h : Ans P E M G w s x) (he : execOp a.eval o = (do Pure.pure (.value (← s)))) :
    ∃ M' w' v, M.le M' ∧ Mem E M' G w' ∧ Rep M' x v ∧ (execOp a.eval o).run P w = .ok (.value v) w' := by
  obtain ⟨M', w', v, h1, h2, h3, h4⟩ := h
  exact ⟨M', w', v, h1, h2, h3, by rw [he]; simp only [Sem.run_bind, h4, Result.andThen_ok, Sem.run_pure]⟩

set_option maxHeartbeats 4000000 in
theorem qv_ok {o : Oper} {C : Prop} {x : V} (h : qv P f G o.op = some (C, x)) (hC : C) (hm : Mem E M G w) (hf : RepG M f a.tmps) :
    ∃ M' w' v, M.le M' ∧ Mem E M' G w' ∧ Rep M' x v ∧ (execOp a.eval o).run P w = .ok (.value v) w' := by
  obtain ⟨dst, op, ty, pos, after, guard⟩ := o
  simp only at h
  cases op <;> simp only [qv] at h <;> try (cases h; done)
  case move X =>
    split at h
    · rename_i y hy
      simp only [ok, Option.some.injEq, Prod.mk.injEq] at h
      obtain ⟨_, rfl⟩ := h
      exact ⟨M, w, _, M.le_refl, hm, ev_rep hf hy, rfl⟩
    · cases h
  case assign X =>
    split at h
    · rename_i y hy
      simp only [ok, Option.some.injEq, Prod.mk.injEq] at h
      obtain ⟨_, rfl⟩ := h
      exact ⟨M, w, _, M.le_refl, hm, ev_rep hf hy, rfl⟩
    · cases h
  case pick c p q =>
    split at h
    · rename_i t ht
      simp only [ok, Option.some.injEq, Prod.mk.injEq] at h
      obtain ⟨_, rfl⟩ := h
      have hc := (ev_rep hf ht).bool_inv
      refine ⟨M, w, _, M.le_refl, hm, pickV_rep (fun e => by subst e; exact unopt_rep (getD_rep hf)) (fun e => by subst e; exact unopt_rep (getD_rep hf)), ?_⟩
      simp only [execOp, hc, asBool, Sem.run_bind, Sem.run_pure, Result.andThen_ok]
    · cases h
  case nilCheck X =>
    split at h
    · rename_i b oo hx
      simp only [ok, Option.some.injEq, Prod.mk.injEq] at h
      obtain ⟨_, rfl⟩ := h
      have hc := ev_rep hf hx
      have := hc.ptr_inv
      refine ⟨M, w, _, M.le_refl, hm, hc, ?_⟩
      simp only [execOp, this]; rfl
    · rename_i cs oo hx
      simp only [ok, Option.some.injEq, Prod.mk.injEq] at h
      obtain ⟨_, rfl⟩ := h
      have hc := ev_rep hf hx
      obtain ⟨ad, he⟩ := lp_inv hc
      refine ⟨M, w, _, M.le_refl, hm, hc, ?_⟩
      simp only [execOp, he]; rfl
    · rename_i g xs ys hx
      simp only [ok, Option.some.injEq, Prod.mk.injEq] at h
      obtain ⟨_, rfl⟩ := h
      have hc := ev_rep hf hx
      obtain ⟨us, vs, he, _, _⟩ := func_inv hc
      refine ⟨M, w, _, M.le_refl, hm, hc, ?_⟩
      simp only [execOp, he]; rfl
    · cases h
  case binOp op t x y yt =>
    split at h
    · rename_i cs ds hx hy
      unfold eqS at h
      split at h
      · rename_i fs hfs
        split at h
        · rename_i r hr
          obtain ⟨⟨p, q, e1, e2⟩, hg, h1, h2⟩ := run_eqS (w := w) hfs hr (ev_rep hf hx) (ev_rep hf hy)
          have hgd : (eqGuard op t x y (a.eval x) (a.eval y)).run P w = .ok () w := by rw [e1, e2]; exact run_eqGuard_agg w op t x y p q hg
          cases op <;> simp only [ok, Option.some.injEq, Prod.mk.injEq, reduceCtorEq] at h <;> obtain ⟨_, rfl⟩ := h
          · exact (Ans.pure (s := do eqGuard .eql t x y (a.eval x) (a.eval y); binOp .eql t (a.eval x) (a.eval y)) hm (.bool r) (by simp only [Sem.run_bind, hgd, Result.andThen_ok, h1])).value rfl
          · exact (Ans.pure (s := do eqGuard .neq t x y (a.eval x) (a.eval y); binOp .neq t (a.eval x) (a.eval y)) hm (.bool (!r)) (by simp only [Sem.run_bind, hgd, Result.andThen_ok, h2])).value rfl
        · cases h
      · cases h
    · rename_i X Y _ hx hy
      exact (ans_binOp hm h hC (ev_rep hf hx) (ev_rep hf hy)).value rfl
    · cases h
  case unOp op t x =>
    split at h
    · rename_i k n hx
      have he := (ev_rep hf hx).int_inv
      cases op <;> simp only [ok, Option.some.injEq, Prod.mk.injEq, reduceCtorEq] at h <;> obtain ⟨_, rfl⟩ := h
      · exact (Ans.pure (s := Op.unary .neg (a.eval x)) hm (.int k _) (by rw [he]; rfl)).value rfl
      · exact (Ans.pure (s := Op.unary .xor (a.eval x)) hm (.int k _) (by rw [he]; rfl)).value rfl
    · rename_i b hx
      have he := (ev_rep hf hx).bool_inv
      cases op <;> simp only [ok, Option.some.injEq, Prod.mk.injEq, reduceCtorEq] at h <;> obtain ⟨_, rfl⟩ := h
      exact (Ans.pure (s := Op.unary .not (a.eval x)) hm (.bool _) (by rw [he]; rfl)).value rfl
    · cases h
  case convert src dst x =>
    split at h
    · rename_i X hx
      exact (ans_conv hm (ev_rep hf hx) h hC).value rfl
    · cases h
  case makeInterface t x =>
    split at h
    · rename_i X hx
      split at h
      · rename_i hk
        simp only [ok, Option.some.injEq, Prod.mk.injEq] at h
        obtain ⟨_, rfl⟩ := h
        exact (ans_makeInterface hm (ev_rep hf hx) hk).value rfl
      · cases h
    · cases h
  case makeFunc fn xs ys =>
    split at h
    · rename_i X Y hx hy
      simp only [ok, Option.some.injEq, Prod.mk.injEq] at h
      obtain ⟨_, rfl⟩ := h
      have h1 := evL_rep hf hx
      have h2 := evL_rep hf hy
      exact (Ans.pure (s := Instr.makeFunc fn (xs.map a.eval) (ys.map a.eval)) hm (RepL.func (by simpa using h1) (by simpa using h2)) rfl).value rfl
    · cases h
  case lookup t x k okk =>
    split at h
    · rename_i X K kt z hx hk ht
      split at h
      · rename_i hs
        exact (ans_lookup hm ht hs (ev_rep hf hk) (ev_rep hf hx) h).value rfl
      · cases h
    · cases h
  case slice t x lo hi mx =>
    split at h
    · rename_i k kv es nl tg kh hv hmx hx hlo hhi
      split at h
      · rename_i en ht
        simp only [Option.some.injEq, Prod.mk.injEq] at h
        obtain ⟨rfl, rfl⟩ := h
        obtain ⟨rfl, rfl⟩ := hC
        obtain rfl := evO_none hlo
        have e1 := evO_rep hf hmx
        have e2 := evO_rep hf hhi
        cases mx with
        | none => exact e1.elim
        | some mx =>
          cases hi with
          | none => exact e2.elim
          | some hi =>
            have e1 := Rep.int_inv (show Rep M (.int _ _) (a.eval mx) from e1)
            have e2 := Rep.int_inv (show Rep M (.int _ _) (a.eval hi) from e2)
            have := ans_slice_zero (k1 := kh) (k2 := k) hm (ev_rep hf hx) (e := en.1) (n := en.2) ht
            rw [← e1, ← e2] at this
            exact this.value rfl
      · cases h
    · rename_i s l hh hmx hx hlo hhi
      obtain rfl := evO_none hmx
      split at h
      · rename_i hs
        split at h
        · rename_i C' l' h' hb
          simp only [Option.some.injEq, Prod.mk.injEq] at h
          obtain ⟨rfl, rfl⟩ := h
          exact (ans_slice_str hm (ev_rep hf hx) hs hb hC (evO_rep hf hlo) (evO_rep hf hhi)).value rfl
        · cases h
      · cases h
    · rename_i es nl tg l hh hmx hx hlo hhi
      obtain rfl := evO_none hmx
      split at h
      · rename_i e n C' l' h' ht hb
        simp only [Option.some.injEq, Prod.mk.injEq] at h
        obtain ⟨rfl, rfl⟩ := h
        exact (ans_slice_sl hm (ev_rep hf hx) ht hb hC.1 hC.2 (evO_rep hf hlo) (evO_rep hf hhi)).value rfl
      · cases h
    · cases h
  case fieldAddr s x i =>
    split at h
    · rename_i b oo off t n hx ht
      split at h
      · cases h
      · rename_i hn
        simp only [ok, Option.some.injEq, Prod.mk.injEq] at h
        obtain ⟨_, rfl⟩ := h
        exact (ans_fieldAt_ptr hm (ev_rep hf hx) ht hn).value rfl
    · rename_i cs oo off t n hx ht
      split at h
      · cases h
      · rename_i hn
        simp only [ok, Option.some.injEq, Prod.mk.injEq] at h
        obtain ⟨_, rfl⟩ := h
        exact (ans_fieldAt_lp hm (ev_rep hf hx) ht hn).value rfl
    · cases h
  case field s x i =>
    split at h
    · rename_i X hx
      exact (ans_field hm (ev_rep hf hx) h).value rfl
    · cases h
  case indexAddr t x i =>
    split at h
    · rename_i X k n hx hi
      have he := (ev_rep hf hi).int_inv
      exact (ans_indexAt (k := k) hm (ev_rep hf hx) h hC).value (by simp only [execOp, he])
    · cases h
  case index t x i =>
    split at h
    · rename_i s k n hx hi
      have he := (ev_rep hf hi).int_inv
      split at h
      · rename_i hs
        simp only [Option.some.injEq, Prod.mk.injEq] at h
        obtain ⟨rfl, rfl⟩ := h
        exact (ans_index_str (k := k) (ty := ty) hm (ev_rep hf hx) hs hC.1 hC.2).value (by simp only [execOp, he])
      · cases h
    · rename_i cs k n hx hi
      have he := (ev_rep hf hi).int_inv
      split at h
      · rename_i l e ht
        split at h
        · rename_i hg
          simp only [Option.some.injEq, Prod.mk.injEq] at h
          obtain ⟨rfl, rfl⟩ := h
          exact (ans_index_arr (k := k) hm (ev_rep hf hx) ht hg hC.1.1 hC.1.2 hC.2).value (by simp only [execOp, he])
        · cases h
      · cases h
    · cases h
  case extract x i =>
    split at h
    · rename_i xs hx
      split at h
      · rename_i X hX
        simp only [ok, Option.some.injEq, Prod.mk.injEq] at h
        obtain ⟨_, rfl⟩ := h
        exact (ans_extract (t := .any) hm (ev_rep hf hx) hX).value rfl
      · cases h
    · cases h
  case load t ad =>
    split at h
    · rename_i X hx
      split at h
      · rename_i Y hY
        simp only [ok, Option.some.injEq, Prod.mk.injEq] at h
        obtain ⟨_, rfl⟩ := h
        exact (ans_loadV hm (ev_rep hf hx) hY).value rfl
      · cases h
    · cases h
  case build t ps =>
    split at h
    · rename_i cs pl hz hp
      split at h
      · rename_i cs' hcs
        simp only [ok, Option.some.injEq, Prod.mk.injEq] at h
        obtain ⟨_, rfl⟩ := h
        exact (ans_build hm hf hz hp hcs).value rfl
      · cases h
    · cases h
  case buildSlice t len ps =>
    split at h
    · rename_i e n ht
      split at h
      · rename_i z hz
        split at h
        · rename_i hc
          simp only [Bool.and_eq_true, decide_eq_true_eq] at hc
          split at h
          · rename_i es hes
            simp only [ok, Option.some.injEq, Prod.mk.injEq] at h
            obtain ⟨_, rfl⟩ := h
            exact (ans_buildSlice hm hf ht hz hc.1.1 hc.1.2 hc.2 hes).value rfl
          · cases h
        · cases h
      · cases h
    · cases h
  case call c =>
    obtain ⟨callee, args, argTypes⟩ := c
    cases callee <;> simp only [reduceCtorEq] at h
    rename_i b
    split at h
    · rename_i x t ts hargs hts
      split at h
      · rename_i X hx
        have h1 : args = #[x] := by apply Array.ext'; simpa using hargs
        have h2 : argTypes = (t :: ts).toArray := by apply Array.ext'; simpa using hts
        subst h1; subst h2
        refine (ans_lenV (ty := ty) (ts := ts) hm (ev_rep hf hx) h).value ?_
        simp [execOp, resolve, invoke, builtin]
      · cases h
    · rename_i x y hargs
      split at h
      · rename_i k p k' q hx hy
        split at h
        · rename_i hk
          subst hk
          simp only [ok, Option.some.injEq, Prod.mk.injEq] at h
          obtain ⟨_, rfl⟩ := h
          have e1 := (ev_rep hf hx).int_inv
          have e2 := (ev_rep hf hy).int_inv
          have h1 : args = #[x, y] := by apply Array.ext'; simpa using hargs
          subst h1
          refine (Ans.pure (s := Builtin.min_ argTypes ty #[a.eval x, a.eval y]) hm (.int k _) ?_).value (by simp [execOp, resolve, invoke, builtin])
          rw [e1, e2]
          simp only [Builtin.min_, List.foldlM_cons, List.foldlM_nil, Sem.run_bind, run_min2, Result.andThen_ok, Sem.run_pure]
        · cases h
      · cases h
    · rename_i x y hargs
      split at h
      · rename_i k p k' q hx hy
        split at h
        · rename_i hk
          subst hk
          simp only [ok, Option.some.injEq, Prod.mk.injEq] at h
          obtain ⟨_, rfl⟩ := h
          have e1 := (ev_rep hf hx).int_inv
          have e2 := (ev_rep hf hy).int_inv
          have h1 : args = #[x, y] := by apply Array.ext'; simpa using hargs
          subst h1
          refine (Ans.pure (s := Builtin.max_ argTypes ty #[a.eval x, a.eval y]) hm (.int k _) ?_).value (by simp [execOp, resolve, invoke, builtin])
          rw [e1, e2]
          simp only [Builtin.max_, List.foldlM_cons, List.foldlM_nil, Sem.run_bind, run_max2, Result.andThen_ok, Sem.run_pure]
        · cases h
      · cases h
    · cases h
end
end Go.Proofs.YtomjghlaoncpbaaV
