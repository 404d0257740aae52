/-
  That 'qv' tells what the machine answers.
-/
import Derived.Test.YtomjghlaoncpbaaVg
namespace Go.Proofs.YtomjghlaoncpbaaV
open Go.RowKit
set_option linter.unusedVariables false
set_option linter.unusedSimpArgs false

section
variable {P : Program} {E : Env} {M : PM} {G : Heap} {w : World} {f : FF} {a : Act}
/-- The machine's answer to an operation that writes nothing. -/
def Ans (P : Program) (E : Env) (M : PM) (G : Heap) (w : World) (s : Sem Value) (x : V) : Prop := ∃ M' w' v, M.le M' ∧ Mem E M' G w' ∧ Rep M' x v ∧ s.run P w = .ok v w'
theorem Ans.pure {s : Sem Value} {x : V} {v : Value} (hm : Mem E M G w) (hr : Rep M x v) (h : s.run P w = .ok v w) : Ans P E M G w s x := ⟨M, w, v, M.le_refl, hm, hr, h⟩

theorem ans_extract {t : V} {u : Value} {i : Nat} {xs : List V} {x : V} (hm : Mem E M G w) (hr : Rep M (.tup xs) u) (hx : xs[i]? = some x) : Ans P E M G w (Instr.extract u i) x := by
  obtain ⟨vs, rfl, hl⟩ := hr.tup_inv
  obtain ⟨v, hv, hrv⟩ := hl.get hx
  refine .pure hm hrv ?_
  simp only [Array.getElem?_toList] at hv
  simp [Instr.extract, hv]
theorem ans_loadV {t : TypeId} {X x : V} {u : Value} (hm : Mem E M G w) (hr : Rep M X u) (h : loadV P G t X = some x) : Ans P E M G w (Instr.loadAt t u) x := by
  unfold loadV at h
  split at h
  · rename_i b o
    obtain rfl := hr.ptr_inv
    split at h
    · rename_i cs hb
      obtain ⟨v, hv, hrv⟩ := run_loadVar_rep (P := P) (hm.cellsRep_vars hb) h
      rw [Nat.zero_add] at hv
      exact .pure hm hrv (by simp [Instr.loadAt, Instr.sureAddr, hv])
    · cases h
  · rename_i cs o
    obtain ⟨b, z, rfl, hc⟩ := hr.lp_cells hm
    obtain ⟨v, hv, hrv⟩ := run_loadVar_rep (P := P) hc h
    exact .pure hm hrv (by simp [Instr.loadAt, Instr.sureAddr, hv])
  · cases h
theorem tfield_info {s : TypeId} {i off n : Nat} {t : TypeId} (h : tfield P s i = some (off, t, n)) : ∃ fs fd, P.underlying s = some (.struct fs) ∧ fs[i]? = some fd ∧ fd.offset = off ∧ fd.type = t ∧ tsz P t = some n := by
  unfold tfield at h
  split at h
  · rename_i fs hu
    split at h
    · rename_i fd hfd
      split at h
      · rename_i n' hn
        cases h
        exact ⟨fs, fd, hu, hfd, rfl, rfl, hn⟩
      · cases h
    · cases h
  · cases h
theorem tslice_info {t e : TypeId} {n : Nat} (h : tslice P t = some (e, n)) : P.underlying t = some (.slice e) ∧ tsz P e = some n := by
  unfold tslice at h
  split at h
  · rename_i e' hu
    split at h
    · rename_i n' hn; cases h; exact ⟨hu, hn⟩
    · cases h
  · cases h
theorem tarray_info {t e : TypeId} {l n : Nat} (h : tarray P t = some (l, e, n)) : P.underlying t = some (.array l e) ∧ tsz P e = some n := by
  unfold tarray at h
  split at h
  · rename_i l' e' hu
    split at h
    · rename_i n' hn; cases h; exact ⟨hu, hn⟩
    · cases h
  · cases h
theorem ans_fieldAt_ptr {s : TypeId} {i off n b o : Nat} {t : TypeId} {u : Value} (hm : Mem E M G w) (hr : Rep M (.ptr b o) u) (h : tfield P s i = some (off, t, n)) (hn : n ≠ 0) : Ans P E M G w (Instr.fieldAt s u i) (.ptr b (o + off)) := by
  obtain rfl := hr.ptr_inv
  obtain ⟨fs, fd, hu, hfd, rfl, rfl, hs⟩ := tfield_info h
  refine .pure hm (.ptr b (o + fd.offset)) ?_
  simp [Instr.fieldAt, run_underlying hu, hfd, Instr.sureAddr, fieldPlace, run_sizeOf hs, hn, Addr.add_lit]
theorem ans_fieldAt_lp {s : TypeId} {i off n o : Nat} {cs : List V} {t : TypeId} {u : Value} (hm : Mem E M G w) (hr : Rep M (.lp cs o) u) (h : tfield P s i = some (off, t, n)) (hn : n ≠ 0) : Ans P E M G w (Instr.fieldAt s u i) (.lp cs (o + off)) := by
  cases hr with
  | lp cs o b z g hmm hr =>
    obtain ⟨fs, fd, hu, hfd, rfl, rfl, hs⟩ := tfield_info h
    refine .pure hm (.lp cs (o + fd.offset) b z g hmm hr) ?_
    simp [Instr.fieldAt, run_underlying hu, hfd, Instr.sureAddr, fieldPlace, run_sizeOf hs, hn, Addr.add_lit, Nat.add_assoc]
theorem run_part {t : TypeId} {cs : List V} {vs : Array Value} {off : Nat} {x : V} (hl : RepL M cs vs.toList) (h : cellsAt P t cs off = some x) : ∃ v, (part t vs off).run P w = .ok v w ∧ Rep M x v := by
  unfold cellsAt at h
  split at h
  · rename_i n hg hs
    split at h
    · rename_i hlen
      cases h
      refine ⟨.agg (vs.extract off (off + n)), by simp only [part, Sem.run_bind, run_isAgg hg, run_sizeOf hs, Result.andThen_ok, if_true, Sem.run_pure], ?_⟩
      have := ((hl.drop off).take n).agg
      have e : ((vs.toList.drop off).take n).toArray = vs.extract off (off + n) := by
        apply Array.ext'
        simp [List.take_drop, Nat.add_comm]
      rw [e] at this; exact this
    · cases h
  · rename_i n hg hs
    obtain ⟨v, hv, hr⟩ := hl.get h
    simp only [Array.getElem?_toList] at hv
    exact ⟨v, by simp only [part, Sem.run_bind, run_isAgg hg, Result.andThen_ok, Bool.false_eq_true, if_false, hv, Sem.run_pure], hr⟩
  · cases h
theorem ans_field {s : TypeId} {i : Nat} {X x : V} {u : Value} {C : Prop} (hm : Mem E M G w) (hr : Rep M X u) (h : fieldV P s i X = some (C, x)) : Ans P E M G w (Instr.field s u i) x := by
  unfold fieldV at h
  split at h
  · rename_i cs
    obtain ⟨vs, rfl, hl⟩ := hr.agg_inv
    split at h
    · rename_i off t n ht
      split at h
      · rename_i y hy
        simp only [ok, Option.some.injEq, Prod.mk.injEq] at h
        obtain ⟨_, rfl⟩ := h
        obtain ⟨fs, fd, hu, hfd, rfl, rfl, hs⟩ := tfield_info ht
        obtain ⟨v, hv, hrv⟩ := run_part (P := P) (w := w) hl hy
        exact .pure hm hrv (by simp [Instr.field, run_underlying hu, hfd, asAgg, hv])
      · cases h
    · cases h
  · cases h
theorem ans_indexAt {t : TypeId} {X x : V} {u : Value} {k : IntKind} {i : Int} {C : Prop} (hm : Mem E M G w) (hr : Rep M X u) (h : addrAt P t X i = some (C, x)) (hC : C) : Ans P E M G w (Instr.indexAt t u (.int k i)) x := by
  unfold addrAt at h
  split at h
  · rename_i es nl tg
    split at h
    · rename_i e n ht
      obtain ⟨hu, hs⟩ := tslice_info ht
      simp only [Option.some.injEq, Prod.mk.injEq] at h
      obtain ⟨rfl, rfl⟩ := h
      obtain ⟨h0, h1, hwid⟩ := hC
      obtain ⟨j, rfl⟩ := Int.eq_ofNat_of_zero_le h0
      have hj : j < es.length := by omega
      rcases sl_cells hm hr with ⟨rfl, _⟩ | ⟨b, z, c, sz, rfl, hc, _, he, hmem, _⟩
      · simp at hj
      · obtain ⟨g, hg1, hg2⟩ := hmem j hj
        have hgd : es.getD j [] = es[j] := by simp [hj]
        have hz : sz = n := by rw [← he j hj]; exact hwid _ (List.getElem_mem hj)
        subst hz
        rw [Int.toNat_natCast, hgd]
        refine .pure hm (.lp es[j] 0 b (z + j * sz) g ?_ (fun i hi => hg2 i hi)) ?_
        · intro i hi
          exact hg1 i (by rw [he j hj] at hi; exact hi)
        · have h1' : (j : Int) < (es.length : Int) := h1
          simp [Instr.indexAt, asIntOf, run_underlying hu, run_sizeOf hs, h1', Addr.add_lit, hj]
    · cases h
  · rename_i b o len cap
    obtain ⟨rfl, hc⟩ := hr.ms_inv
    split at h
    · rename_i e n ht
      obtain ⟨hu, hs⟩ := tslice_info ht
      simp only [Option.some.injEq, Prod.mk.injEq] at h
      obtain ⟨rfl, rfl⟩ := h
      refine .pure hm (.ptr _ _) ?_
      simp [Instr.indexAt, asIntOf, run_underlying hu, run_sizeOf hs, hC.1, hC.2, Addr.add_lit]
    · cases h
  · rename_i b o
    obtain rfl := hr.ptr_inv
    split at h
    · rename_i l e n ht
      obtain ⟨hu, hs⟩ := tarray_info ht
      simp only [Option.some.injEq, Prod.mk.injEq] at h
      obtain ⟨rfl, rfl⟩ := h
      obtain ⟨⟨h0, h1⟩, h2⟩ := hC
      refine .pure hm (.ptr _ _) ?_
      simp [Instr.indexAt, asIntOf, run_underlying hu, run_sizeOf hs, h0, h1, Instr.sureAddr, Addr.add_lit]
    · cases h
  · cases h

theorem ans_lenV {t ty : TypeId} {ts : List TypeId} {X x : V} {u : Value} {C : Prop} (hm : Mem E M G w) (hr : Rep M X u) (h : lenV P G t X = some (C, x)) : Ans P E M G w (Builtin.len_ (t :: ts).toArray ty #[u]) x := by
  unfold lenV at h
  split at h
  · rename_i s
    obtain rfl := hr.str_inv
    split at h
    · rename_i hs
      simp only [ok, Option.some.injEq, Prod.mk.injEq] at h
      obtain ⟨_, rfl⟩ := h
      have hu : P.underlying t = some .string := by unfold isStr at hs; split at hs <;> simp_all
      refine .pure hm (.int .i64 _) ?_
      have hsz : (ByteArray.mk s.toArray).size = s.length := by show s.toArray.size = _; simp
      simp [Builtin.len_, run_underlying hu, goInt, hsz]
    · cases h
  · rename_i es nl tg
    obtain ⟨ad, c, rfl, hc, rfl⟩ := sl_inv hr
    split at h
    · rename_i hk
      simp only [ok, Option.some.injEq, Prod.mk.injEq] at h
      obtain ⟨_, rfl⟩ := h
      obtain ⟨d, hd, hk⟩ := kindIs_some hk
      cases d <;> simp [isSliceT] at hk
      refine .pure hm (.int .i64 _) ?_
      simp [Builtin.len_, run_underlying hd, goInt]
    · cases h
  · rename_i b o l c
    obtain ⟨rfl, hc⟩ := hr.ms_inv
    split at h
    · rename_i hk
      simp only [ok, Option.some.injEq, Prod.mk.injEq] at h
      obtain ⟨_, rfl⟩ := h
      obtain ⟨d, hd, hk⟩ := kindIs_some hk
      cases d <;> simp [isSliceT] at hk
      refine .pure hm (.int .i64 _) ?_
      simp [Builtin.len_, run_underlying hd, goInt]
    · cases h
  · obtain rfl := hr.nilm_inv
    split at h
    · rename_i hk
      simp only [ok, Option.some.injEq, Prod.mk.injEq] at h
      obtain ⟨_, rfl⟩ := h
      obtain ⟨d, hd, hk⟩ := kindIs_some hk
      cases d <;> simp [isMapT] at hk
      refine .pure hm (.int .i64 _) ?_
      simp [Builtin.len_, run_underlying hd, goInt]
    · cases h
  · rename_i b
    obtain rfl := hr.map_inv
    split at h
    · rename_i hk
      split at h
      · rename_i kvs hb
        simp only [ok, Option.some.injEq, Prod.mk.injEq] at h
        obtain ⟨_, rfl⟩ := h
        obtain ⟨d, hd, hk⟩ := kindIs_some hk
        cases d <;> simp [isMapT] at hk
        obtain ⟨_, es, ck, h1, h2, _⟩ := hm.obj b _ hb
        refine .pure hm (.int .i64 _) ?_
        simp [Builtin.len_, run_underlying hd, goInt, getObj, Sem.run, h1, h2]
      · cases h
    · cases h
  · cases h
theorem isStr_info {t : TypeId} (h : isStr P t = true) : P.underlying t = some .string := by
  unfold isStr at h; split at h <;> simp_all
theorem isU8s_info {t : TypeId} (h : isU8s P t = true) : ∃ e, P.underlying t = some (.slice e) ∧ P.underlying e = some (.int .u8) := by
  unfold isU8s at h
  split at h
  · rename_i e hu
    split at h
    · exact ⟨e, hu, by assumption⟩
    · cases h
  · cases h
theorem ans_index_str {t ty : TypeId} {s : List UInt8} {u : Value} {k : IntKind} {n : Int} (hm : Mem E M G w) (hr : Rep M (.str s) u) (ht : isStr P t = true) (h0 : 0 ≤ n) (h1 : n < s.length) :
    Ans P E M G w (Instr.index t u (.int k n)) (.int .u8 ((s.getD n.toNat 0).toNat : Int)) := by
  obtain rfl := hr.str_inv
  obtain ⟨j, rfl⟩ := Int.eq_ofNat_of_zero_le h0
  have hj : j < s.length := by omega
  have hsz : (ByteArray.mk s.toArray).size = s.length := by show s.toArray.size = _; simp
  have hg : (ByteArray.mk s.toArray)[j]? = some s[j] := by
    have : j < (ByteArray.mk s.toArray).size := by omega
    rw [getElem?_pos (ByteArray.mk s.toArray) j this]; rfl
  refine .pure hm (.int .u8 _) ?_
  simp [Instr.index, asIntOf, run_underlying (isStr_info ht), hg, hj]
def OptRep (M : PM) : Option V → Option Value → Prop
  | none, none => True
  | some x, some v => Rep M x v
  | _, _ => False
theorem run_sliceBounds {isSlice : Bool} {len cap : Nat} {lo hi : Option V} {ulo uhi : Option Value} {C : Prop} {l h : Nat} (hb : bnd lo hi len = some (C, l, h)) (hC : C) (hc : len ≤ cap)
    (h1 : OptRep M lo ulo) (h2 : OptRep M hi uhi) :
    (Instr.sliceBounds isSlice len cap ulo uhi none).run P w = .ok (l, h, cap) w ∧ l ≤ h ∧ h ≤ len := by
  unfold bnd at hb
  split at hb
  · simp only [Option.some.injEq, Prod.mk.injEq] at hb
    obtain ⟨rfl, rfl, rfl⟩ := hb
    cases ulo <;> simp only [OptRep] at h1
    cases uhi <;> simp only [OptRep] at h2
    exact ⟨by simp [Instr.sliceBounds], Nat.zero_le _, Nat.le_refl _⟩
  · rename_i k lv
    simp only [Option.some.injEq, Prod.mk.injEq] at hb
    obtain ⟨rfl, rfl, rfl⟩ := hb
    cases ulo <;> simp only [OptRep] at h1
    cases uhi <;> simp only [OptRep] at h2
    obtain rfl := h1.int_inv
    refine ⟨by simp [Instr.sliceBounds, Instr.sliceBound, asIntOf, hC.1, hC.2], by omega, Nat.le_refl _⟩
  · rename_i k hv
    simp only [Option.some.injEq, Prod.mk.injEq] at hb
    obtain ⟨rfl, rfl, rfl⟩ := hb
    cases ulo <;> simp only [OptRep] at h1
    cases uhi <;> simp only [OptRep] at h2
    obtain rfl := h2.int_inv
    have : hv ≤ (cap : Int) := by omega
    refine ⟨by simp [Instr.sliceBounds, Instr.sliceBound, asIntOf, hC.1, this], Nat.zero_le _, by omega⟩
  · rename_i k lv k' hv
    simp only [Option.some.injEq, Prod.mk.injEq] at hb
    obtain ⟨rfl, rfl, rfl⟩ := hb
    cases ulo <;> simp only [OptRep] at h1
    cases uhi <;> simp only [OptRep] at h2
    obtain rfl := h1.int_inv
    obtain rfl := h2.int_inv
    obtain ⟨⟨h3, h4⟩, h5, h6⟩ := hC
    have e1 : hv ≤ (cap : Int) := by omega
    have e2 : lv ≤ max hv 0 := by omega
    refine ⟨by simp [Instr.sliceBounds, Instr.sliceBound, asIntOf, h3, h5, h6, e1, e2], by omega, by omega⟩
  · cases hb
theorem evO_rep {o : Option Operand} {X : Option V} (hf : RepG M f a.tmps) (h : evO f o = some X) : OptRep M X (o.map a.eval) := by
  cases o with
  | none => simp [evO] at h; subst h; trivial
  | some o =>
    simp only [evO] at h
    split at h
    · rename_i x hx; cases h; exact ev_rep hf hx
    · cases h
theorem evO_none {o : Option Operand} (h : evO f o = some none) : o = none := by
  cases o with
  | none => rfl
  | some o =>
    simp only [evO] at h
    split at h
    · cases h
    · cases h
theorem ans_slice_str {t : TypeId} {s : List UInt8} {u : Value} {lo hi : Option V} {ulo uhi : Option Value} {C : Prop} {l h : Nat} (hm : Mem E M G w) (hr : Rep M (.str s) u) (ht : isStr P t = true) (hb : bnd lo hi s.length = some (C, l, h)) (hC : C)
    (h1 : OptRep M lo ulo) (h2 : OptRep M hi uhi) :
    Ans P E M G w (Instr.sliceAt t u ulo uhi none) (.str ((s.take h).drop l)) := by
  obtain rfl := hr.str_inv
  obtain ⟨hrun, hl, hh⟩ := run_sliceBounds (P := P) (w := w) (isSlice := false) hb hC (Nat.le_refl _) h1 h2
  refine .pure hm (.str _) ?_
  have hsz : (ByteArray.mk s.toArray).size = s.length := by show s.toArray.size = _; simp
  simp only [Instr.sliceAt, Instr.slice, Sem.run_bind, run_underlying (isStr_info ht), Result.andThen_ok, Option.isSome_none, Bool.false_eq_true, if_false, hsz, hrun, Sem.run_pure]
  congr 2
  apply ByteArray.ext
  apply Array.ext'
  simp [ByteArray.data_extract, List.take_drop]
  rw [show l + (h - l) = h by omega]
theorem ans_slice_sl {t e : TypeId} {n : Nat} {es : List (List V)} {nl : Bool} {tg : Tag} {u : Value} {lo hi : Option V} {ulo uhi : Option Value} {C : Prop} {l h : Nat} (hm : Mem E M G w) (hr : Rep M (.sl es nl tg) u) (ht : tslice P t = some (e, n)) (hb : bnd lo hi es.length = some (C, l, h)) (hC : C) (hw : wid n es)
    (h1 : OptRep M lo ulo) (h2 : OptRep M hi uhi) :
    Ans P E M G w (Instr.sliceAt t u ulo uhi none) (.sl ((es.take h).drop l) nl (sliceTag tg n l h es.length)) := by
  obtain ⟨hu, hs⟩ := tslice_info ht
  cases hr with
  | sl es nl tg ad len cap sz g hl hc hn hz hsp he hmm hrr htag =>
    subst hl
    obtain ⟨hrun, hl', hh'⟩ := run_sliceBounds (P := P) (w := w) (isSlice := true) hb hC hc h1 h2
    have hrun2 : (Instr.sliceAt t (.slice ad es.length cap) ulo uhi none).run P w = .ok (.slice (if cap = l then ad else ad.map (·.add (l * n))) (h - l) (cap - l)) w := by
      simp only [Instr.sliceAt, Instr.slice, Sem.run_bind, run_underlying hu, Result.andThen_ok, hrun, run_sizeOf hs, Sem.run_pure]
    refine .pure hm ?_ hrun2
    have hsz : es ≠ [] → sz = n := fun hne => by
      cases es with
      | nil => exact absurd rfl hne
      | cons e0 es => rw [← he 0 (by simp)]; exact hw _ (by simp)
    have hlen : ((es.take h).drop l).length = h - l := by simp; omega
    have hge : ∀ i (hi : i < ((es.take h).drop l).length), ((es.take h).drop l)[i] = es[l + i]'(by simp at hi; omega) := fun i hi => by simp
    refine .sl _ nl _ _ _ _ n (fun i j => g (l + i) j) hlen.symm (by omega) ?_ ?_ ?_ ?_ ?_ ?_ ?_
    · rw [hn]; split
      · rfl
      · cases ad <;> rfl
    · intro hnone
      have : ad = none := by
        split at hnone
        · exact hnone
        · cases ad with
          | none => rfl
          | some x => cases hnone
      have := hz this; omega
    · intro ad' ha'
      split at ha'
      · exact fun q => hsp _ ha' (by omega)
      · cases ad with
        | none => cases ha'
        | some x =>
          have := hsp x rfl
          simp only [Option.map_some, Option.some.injEq] at ha'
          subst ha'
          intro q
          unfold Addr.add; split
          · exact this (by omega)
          · rfl
    · intro i hi
      rw [hge i hi, he]
      exact hsz (fun e => by subst e; simp at hi)
    · intro ad' ha' i hi j hj
      have hi2 : l + i < es.length := by rw [hlen] at hi; omega
      have hne : es ≠ [] := fun e => by subst e; simp at hi2
      have hszn := hsz hne
      cases ad with
      | none => exact absurd (hz rfl) (by omega)
      | some x =>
        have hxs := hsp x rfl (by omega)
        obtain ⟨xb, xo, xs⟩ := x
        simp only at hxs
        subst hxs
        have hm' := hmm _ rfl (l + i) hi2 j (by omega)
        have hb' : ad' = ⟨xb, xo + l * n, none⟩ := by
          split at ha'
          · omega
          · simp only [Option.map_some, Option.some.injEq, Addr.add_lit] at ha'; exact ha'.symm
        subst hb'
        subst hszn
        simp only at hm' ⊢
        rw [← hm']
        congr 1
        rw [Nat.add_mul]; omega
    · intro i hi j hj
      have hi2 : l + i < es.length := by rw [hlen] at hi; omega
      have := hge i hi
      have hj2 : j < (es[l + i]).length := by rw [← this]; exact hj
      have hR := hrr (l + i) hi2 j hj2
      have e2 : ((es.take h).drop l)[i][j] = es[l + i][j] := by simp
      rw [e2]; exact hR
    · unfold sliceTag
      split
      · trivial
      · split
        · rename_i hh
          simp only [TagOk] at htag ⊢
          omega
        · trivial
      · rename_i s b e c
        split
        · rename_i hh
          split
          · rename_i hsn
            subst hsn
            obtain ⟨rfl, x, rfl, htag⟩ := htag
            by_cases hcl : cap = l
            · rw [if_pos hcl]
              exact ⟨rfl, _, rfl, .inl (by omega)⟩
            · have hxs := hsp x rfl (by omega)
              obtain ⟨xb, xo, xs⟩ := x
              simp only at hxs htag
              subst hxs
              rw [if_neg hcl]
              refine ⟨rfl, ⟨xb, xo + l * s, none⟩, by simp [Addr.add_lit], ?_⟩
              rcases htag with htag | ⟨h3, h4, h5⟩
              · exact .inl (by omega)
              · have key : ∀ c', l ≤ c' → xo + l * s + (c' - l) * s = xo + c' * s := fun c' hc' => by rw [Nat.add_assoc, ← Nat.add_mul]; congr 2; omega
                exact .inr ⟨h3, by rw [key h hl', hh]; exact h4, by rw [key cap (by omega)]; exact h5⟩
          · trivial
        · trivial
/-- s[:0:0] -/
theorem ans_slice_zero {t e : TypeId} {n : Nat} {es : List (List V)} {nl : Bool} {tg : Tag} {u : Value} {k1 k2 : IntKind} (hm : Mem E M G w) (hr : Rep M (.sl es nl tg) u) (ht : tslice P t = some (e, n)) :
    Ans P E M G w (Instr.sliceAt t u none (some (.int k1 0)) (some (.int k2 0))) (.sl [] nl .full) := by
  obtain ⟨hu, hs⟩ := tslice_info ht
  cases hr with
  | sl es nl tg ad len cap sz g hl hc hn hz hsp he hmm hrr htag =>
    have hb : (Instr.sliceBounds true len cap none (some (.int k1 0)) (some (.int k2 0))).run P w = .ok (0, 0, 0) w := by
      simp [Instr.sliceBounds, Instr.sliceBound, asIntOf]
    have hrun2 : (Instr.sliceAt t (.slice ad len cap) none (some (.int k1 0)) (some (.int k2 0))).run P w = .ok (.slice ad 0 0) w := by
      simp only [Instr.sliceAt, Instr.slice, Sem.run_bind, run_underlying hu, Result.andThen_ok, hb, run_sizeOf hs, Sem.run_pure]
      rfl
    exact .pure hm (.sl [] nl .full ad 0 0 0 (fun _ _ => undef) rfl (Nat.le_refl _) hn (fun _ => rfl) (fun _ _ h => absurd h (by omega)) (fun i h => absurd h (by simp)) (fun _ _ i h => absurd h (by simp)) (fun i h => absurd h (by simp)) rfl) hrun2
end
end Go.Proofs.YtomjghlaoncpbaaV
