/-
  Loads, results, and how a function is entered.
-/
import Derived.Test.YtomjghlaoncpbaaVb
import Derived.Laws.IdiomCopy
namespace Go.Proofs.YtomjghlaoncpbaaV
open Go.RowKit
set_option linter.unusedVariables false
set_option linter.unusedSimpArgs false

/-- The cells from place z of block b on read as cs. -/
def CellsRep (M : PM) (w : World) (b z : Nat) (cs : List V) : Prop := ∃ vs, RepL M cs vs ∧ ∀ (i : Nat) (v : Value), vs[i]? = some v → w.cell? ⟨b, z + i, none⟩ = some v
theorem CellsRep.drop {M : PM} {w : World} {b z : Nat} {cs : List V} (h : CellsRep M w b z cs) (n : Nat) : CellsRep M w b (z + n) (cs.drop n) := by
  obtain ⟨vs, h1, h2⟩ := h
  exact ⟨vs.drop n, h1.drop n, fun i v hv => by rw [List.getElem?_drop] at hv; have := h2 _ _ hv; rwa [← Nat.add_assoc] at this⟩
theorem CellsRep.take {M : PM} {w : World} {b z : Nat} {cs : List V} (h : CellsRep M w b z cs) (n : Nat) : CellsRep M w b z (cs.take n) := by
  obtain ⟨vs, h1, h2⟩ := h
  refine ⟨vs.take n, h1.take n, fun i v hv => h2 i v ?_⟩
  rw [List.getElem?_take] at hv
  split at hv
  · exact hv
  · cases hv
section
variable {P : Program} {M : PM} {w : World} {b z : Nat} {cs : List V}
theorem CellsRep.get (h : CellsRep M w b z cs) {i : Nat} {c : V} (hc : cs[i]? = some c) : ∃ v, w.cell? ⟨b, z + i, none⟩ = some v ∧ Rep M c v := by
  obtain ⟨vs, h1, h2⟩ := h
  obtain ⟨v, hv, hr⟩ := h1.get hc
  exact ⟨v, h2 i v hv, hr⟩
theorem run_loadCells_rep (h : CellsRep M w b z cs) : ∃ vs, RepL M cs vs ∧ (loadCells ⟨b, z, none⟩ cs.length).run P w = .ok vs.toArray w := by
  obtain ⟨vs, h1, h2⟩ := h
  refine ⟨vs, h1, ?_⟩
  rw [h1.1]
  exact run_loadCells_list w _ vs fun j v hv => by rw [Addr.add_lit]; exact h2 j v hv
theorem RepL.agg {vs : List Value} (h : RepL M cs vs) : Rep M (.agg cs) (.agg vs.toArray) := by
  refine .agg cs _ (by simp [h.1]) fun i hi => ?_
  have := h.2 i hi
  rw [List.getD_eq_getElem?_getD] at this
  simpa [Array.getD_eq_getD_getElem?] using this
theorem RepL.tup {vs : List Value} (h : RepL M cs vs) : Rep M (.tup cs) (.tuple vs.toArray) := by
  refine .tup cs _ (by simp [h.1]) fun i hi => ?_
  have := h.2 i hi
  rw [List.getD_eq_getElem?_getD] at this
  simpa [Array.getD_eq_getD_getElem?] using this
theorem RepL.ofArr {vs : Array Value} (h : vs.size = cs.length) (r : ∀ i (hi : i < cs.length), Rep M cs[i] (vs.getD i undef)) : RepL M cs vs.toList := by
  refine ⟨by simp [h], fun i hi => ?_⟩
  have := r i hi
  rw [Array.getD_eq_getD_getElem?] at this
  simpa [List.getD_eq_getElem?_getD] using this
theorem tsz_info {t : TypeId} {n : Nat} (h : tsz P t = some n) : ∃ i, P.info? t = some i ∧ i.size = n := by
  unfold tsz at h
  cases hi : P.info? t with
  | none => simp [hi] at h
  | some i => exact ⟨i, rfl, by simpa [hi] using h⟩
theorem run_sizeOf {t : TypeId} {n : Nat} (h : tsz P t = some n) : (sizeOf t).run P w = .ok n w := by
  obtain ⟨i, hi, rfl⟩ := tsz_info h
  simp [sizeOf, typeInfo, hi]
theorem run_isAgg {t : TypeId} {g : Bool} (h : tagg P t = some g) : (isAgg t).run P w = .ok g w := by
  unfold tagg at h
  cases hu : P.underlying t with
  | none => simp [hu] at h
  | some d => simp only [isAgg, Sem.run_bind, run_underlying hu, Result.andThen_ok]; cases d <;> simp [hu] at h <;> subst h <;> rfl
theorem run_loadVar_rep {t : TypeId} {o : Nat} {x : V} (h : CellsRep M w b z cs) (hc : cellsAt P t cs o = some x) : ∃ v, (loadVar t ⟨b, z + o, none⟩).run P w = .ok v w ∧ Rep M x v := by
  unfold cellsAt at hc
  split at hc
  · rename_i n hg hs
    split at hc
    · rename_i hlen
      cases hc
      have h' := (h.drop o).take n
      obtain ⟨vs, r, hl⟩ := run_loadCells_rep (P := P) h'
      have he : ((cs.drop o).take n).length = n := by simp; omega
      rw [he] at hl
      exact ⟨_, by simp only [loadVar, Sem.run_bind, run_isAgg hg, run_sizeOf hs, Result.andThen_ok, hl, if_true, Sem.run_pure], r.agg⟩
    · cases hc
  · rename_i n hg hs
    obtain ⟨v, hv, hr⟩ := h.get hc
    refine ⟨v, ?_, hr⟩
    simp only [loadVar, Sem.run_bind, run_isAgg hg, Result.andThen_ok, Bool.false_eq_true, if_false, run_load, hv]
  · cases hc
end
theorem Mem.cellsRep_vars {E : Env} {M : PM} {G : Heap} {w : World} (h : Mem E M G w) {b : Nat} {cs : List V} (hb : hget G b = some (.vars cs)) : CellsRep M w b 0 cs := by
  obtain ⟨_, arr, T, fr, h1, h2, h3, _⟩ := h.obj b _ hb
  refine ⟨arr.toList.take cs.length, ⟨by simp; omega, fun i hi => ?_⟩, fun i v hv => ?_⟩
  · have := h3 i hi
    rw [Array.getD_eq_getD_getElem?] at this
    rw [List.getD_eq_getElem?_getD, List.getElem?_take_of_lt hi]; simpa using this
  · rw [List.getElem?_take] at hv
    split at hv
    · simp only [World.cell?, h1, Nat.zero_add]; simpa using hv
    · cases hv
theorem Rep.lp_cells {E : Env} {M : PM} {G : Heap} {w : World} (h : Mem E M G w) {cs : List V} {o : Nat} {v : Value} (hr : Rep M (.lp cs o) v) : ∃ b z, v = .pointer (some ⟨b, z + o, none⟩) ∧ CellsRep M w b z cs := by
  cases hr with
  | lp cs o b z g hm hr =>
    refine ⟨b, z, rfl, (List.range cs.length).map g, ⟨by simp, fun i hi => ?_⟩, fun i v hv => ?_⟩
    · have := hr i hi
      rw [List.getD_eq_getElem?_getD]; simpa [hi] using this
    · have hi : i < cs.length := by
        rcases Nat.lt_or_ge i cs.length with q | q
        · exact q
        · rw [List.getElem?_eq_none (by simpa using q)] at hv; cases hv
      have := h.pm _ _ _ (hm i hi)
      rw [this]
      simpa [hi] using hv

/-! ### results -/
theorem RepG.get {M : PM} {f : FF} {t : Array Value} (h : RepG M f t) {i : Nat} {x : V} (hx : f i = some x) : Rep M x (t.getD i undef) := (h i x hx).2
theorem Rep.ptr_inv {M : PM} {b o : Nat} {v : Value} (h : Rep M (.ptr b o) v) : v = .pointer (some ⟨b, o, none⟩) := by cases h; rfl
theorem Rep.bool_inv {M : PM} {b : Bool} {v : Value} (h : Rep M (.bool b) v) : v = .bool b := by cases h; rfl
theorem Rep.int_inv {M : PM} {k : IntKind} {n : Int} {v : Value} (h : Rep M (.int k n) v) : v = .int k n := by cases h; rfl
theorem Rep.str_inv {M : PM} {s : List UInt8} {v : Value} (h : Rep M (.str s) v) : v = .string ⟨s.toArray⟩ := by cases h; rfl
theorem Rep.nilp_inv {M : PM} {v : Value} (h : Rep M .nilp v) : v = .pointer none := by cases h; rfl
theorem Rep.nilm_inv {M : PM} {v : Value} (h : Rep M .nilm v) : v = .map none := by cases h; rfl
theorem Rep.map_inv {M : PM} {b : Nat} {v : Value} (h : Rep M (.map b) v) : v = .map (some b) := by cases h; rfl
theorem Rep.nili_inv {M : PM} {v : Value} (h : Rep M .nili v) : v = .nilIface := by cases h; rfl
theorem Rep.nilf_inv {M : PM} {v : Value} (h : Rep M .nilf v) : v = .nilFunc := by cases h; rfl
theorem Rep.ms_inv {M : PM} {b o l c : Nat} {v : Value} (h : Rep M (.ms b o l c) v) : v = .slice (some ⟨b, o, none⟩) l c ∧ l ≤ c := by cases h; exact ⟨rfl, by assumption⟩
theorem Rep.iface_inv {M : PM} {t : TypeId} {x : V} {v : Value} (h : Rep M (.iface t x) v) : ∃ u, v = .iface t u ∧ Rep M x u := by cases h; exact ⟨_, rfl, by assumption⟩
theorem Rep.agg_inv {M : PM} {cs : List V} {v : Value} (h : Rep M (.agg cs) v) : ∃ vs : Array Value, v = .agg vs ∧ RepL M cs vs.toList := by
  cases h with
  | agg _ vs h r => exact ⟨vs, rfl, RepL.ofArr h r⟩
theorem Rep.tup_inv {M : PM} {cs : List V} {v : Value} (h : Rep M (.tup cs) v) : ∃ vs : Array Value, v = .tuple vs ∧ RepL M cs vs.toList := by
  cases h with
  | tup _ vs h r => exact ⟨vs, rfl, RepL.ofArr h r⟩

def resSem (t : Array Value) : ResultVar → Sem Value
  | .tmp i => pure (t.getD i undef)
  | .cell a ty => do loadVar ty (← asAddr (t.getD a undef))
theorem results_eq (fn : Func) (t : Array Value) : results fn t = (do let vs ← fn.results.mapM (resSem t); pure (if h : vs.size = 1 then vs[0] else .tuple vs)) := by
  have : (fun r : ResultVar => (match r with | .tmp i => pure (t.getD i undef) | .cell a ty => (do loadVar ty (← asAddr (t.getD a undef)) : Sem Value))) = resSem t := by
    funext r
    cases r <;> rfl
  rw [← this]
  rfl
theorem run_resOne {P : Program} {E : Env} {M : PM} {G : Heap} {w : World} {f : Frame} {t : Array Value} (hm : Mem E M G w) (hf : RepF M f t) {r : ResultVar} {x : V} (h : resOf P f G r = some x) :
    ∃ v, (resSem t r).run P w = .ok v w ∧ Rep M x v := by
  cases r with
  | tmp i => exact ⟨_, rfl, hf.get h⟩
  | cell a ty =>
    simp only [resOf] at h
    split at h
    · rename_i b o hp
      split at h
      · rename_i cs hb
        have he := (hf.get hp).ptr_inv
        obtain ⟨v, hv, hr⟩ := run_loadVar_rep (P := P) (hm.cellsRep_vars hb) h
        rw [Nat.zero_add] at hv
        exact ⟨v, by simp only [resSem, he, asAddr, Sem.run_bind, Sem.run_pure, Result.andThen_ok, hv], hr⟩
      · cases h
    · cases h
theorem run_resL {P : Program} {E : Env} {M : PM} {G : Heap} {w : World} {f : Frame} {t : Array Value} (hm : Mem E M G w) (hf : RepF M f t) : ∀ {rs : List ResultVar} {xs : List V}, resL P f G rs = some xs →
    ∃ vs, RepL M xs vs ∧ Sem.run P (rs.mapM (resSem t)) w = .ok vs w
  | [], xs, h => by simp [resL] at h; subst h; exact ⟨[], RepL.nil, rfl⟩
  | r :: rs, xs, h => by
    simp only [resL] at h
    split at h
    · rename_i x ys h1 h2
      cases h
      obtain ⟨v, hv, hr⟩ := run_resOne (P := P) hm hf h1
      obtain ⟨vs, hrs, hvs⟩ := run_resL hm hf h2
      refine ⟨v :: vs, RepL.cons hr hrs, ?_⟩
      simp only [List.mapM_cons, Sem.run_bind, Sem.run_pure]
      rw [hv]
      simp only [Result.andThen_ok, hvs]
    · cases h
theorem run_results {P : Program} {E : Env} {M : PM} {G : Heap} {w : World} {f : Frame} {t : Array Value} (hm : Mem E M G w) (hf : RepF M f t) {fn : Func} {rs : List ResultVar} (he : fn.results = rs.toArray) {xs : List V} (h : resL P f G rs = some xs) :
    ∃ v, (results fn t).run P w = .ok v w ∧ Rep M (oneOf xs) v := by
  obtain ⟨vs, hrs, hvs⟩ := run_resL (P := P) hm hf h
  have hrun : (results fn t).run P w = .ok (if h : vs.toArray.size = 1 then vs.toArray[0] else .tuple vs.toArray) w := by
    rw [results_eq]
    simp only [he, List.mapM_toArray, Sem.run_bind, Sem.run_map, hvs, Result.andThen_ok, Sem.run_pure]
  refine ⟨_, hrun, ?_⟩
  match xs, vs, hrs with
  | [], [], hrs => exact hrs.tup
  | [x], [v], hrs => exact hrs.head
  | x :: y :: xs, v :: u :: vs, hrs => exact hrs.tup
  | [], _ :: _, hrs => exact absurd hrs.1 (by simp)
  | _ :: _, [], hrs => exact absurd hrs.1 (by simp)
  | [_], _ :: _ :: _, hrs => exact absurd hrs.1 (by simp)
  | _ :: _ :: _, [_], hrs => exact absurd hrs.1 (by simp)

theorem acall_body {P : Program} {g : FuncId} {args : List V} {Q : V → Heap → Prop} {G : Heap} {fn : Func} {c : Code} {rs : List ResultVar} {N : Nat} (hf : P.funcs[g]? = some fn) (hb : fn.body = some c) (hr : fn.results = rs.toArray) (hN : fn.ntmps = N)
    (hname : (fn.name == "runtime.NumGoroutine") = false) (ha : args.length ≤ N) (h : AW P N c (retQ P rs Q) (fargs 0 args) G) : ACall P g args Q G := by
  intro E M w vs hm hrep o a next Q' hn
  have hlen : vs.size = args.length := by have := hrep.1; simp at this; exact this.symm
  have hcall : (callFunc g vs).run P w = .ok (.enter g vs) w := by
    simp only [callFunc, Sem.run_bind, run_program, Result.andThen_ok, hf, hname, hb, Bool.false_eq_true, if_false, Option.isNone_some, Sem.run_pure]
  rw [hcall, Oper.upon_enter]
  have hc : Calls P g vs w (fun e w' => ∃ v, e = .returned v ∧ APost E M Q v w') := by
    refine calls_of_wp hf hb ?_
    have hsz : (vs ++ Array.replicate (fn.ntmps - vs.size) undef).size = N := by simp [hN, hlen]; omega
    have hfr : RepF M (fargs 0 args) (vs ++ Array.replicate (fn.ntmps - vs.size) undef) := by
      intro i x hx
      obtain ⟨_, h2⟩ := fget_fargs args 0 i x hx
      obtain ⟨v, hv, hrx⟩ := hrep.get (i := i) (c := x) (by simpa using h2)
      have hi : i < vs.size := by
        rcases Nat.lt_or_ge i vs.size with q | q
        · exact q
        · simp at hv; rw [Array.getElem?_eq_none q] at hv; cases hv
      refine ⟨by omega, ?_⟩
      rw [Array.getD_eq_getD_getElem?, Array.getElem?_append_left hi]
      simp at hv; rw [hv]; exact hrx
    refine wp_mono (h E M w _ hm hfr hsz rfl) ?_
    intro e a' w' hl
    obtain ⟨M', f', G', h1, h2, h3, h4, h5, h6, xs, hxs, hq⟩ := hl
    obtain ⟨v, hv, hrv⟩ := run_results (P := P) h2 h3 hr hxs
    cases e with
    | normal => exact ⟨h5, v, hv, v, rfl, M', G', _, h1, h2, hrv, hq⟩
    | ret => exact ⟨h5, v, hv, v, rfl, M', G', _, h1, h2, hrv, hq⟩
    | _ => exact h6.elim
  refine hc.mono ?_
  rintro e w' ⟨v, rfl, hp⟩
  exact hn v w' hp
end Go.Proofs.YtomjghlaoncpbaaV
