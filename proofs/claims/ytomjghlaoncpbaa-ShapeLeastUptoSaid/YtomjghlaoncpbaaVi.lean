/-
  That 'qv' tells what the machine answers: literals, conversions, and all of it together.
-/
import Derived.Test.YtomjghlaoncpbaaVh
namespace Go.Proofs.YtomjghlaoncpbaaV
open Go.RowKit
set_option linter.unusedVariables false
set_option linter.unusedSimpArgs false

theorem flatten_get {A : Type} {n : Nat} : ∀ {es : List (List A)} (he : ∀ e ∈ es, e.length = n) {i j : Nat} (hi : i < es.length) (hj : j < (es[i]).length), es.flatten[i * n + j]? = some (es[i])[j]
  | [], he, i, j, hi, hj => by simp at hi
  | e :: es, he, 0, j, hi, hj => by
    simp only [List.flatten_cons, Nat.zero_mul, Nat.zero_add]
    have hj' : j < e.length := hj
    rw [List.getElem?_append_left hj', List.getElem?_eq_getElem hj']
    rfl
  | e :: es, he, i + 1, j, hi, hj => by
    simp only [List.flatten_cons]
    have hl : e.length = n := he e (by simp)
    rw [List.getElem?_append_right (by rw [hl, Nat.add_mul]; omega), hl, show (i + 1) * n + j - n = i * n + j by rw [Nat.add_mul]; omega]
    exact flatten_get (es := es) (fun e h => he e (by simp [h])) (by simpa using hi) hj
theorem flatten_length {A : Type} {n : Nat} : ∀ {es : List (List A)} (he : ∀ e ∈ es, e.length = n), es.flatten.length = es.length * n
  | [], _ => by simp
  | e :: es, he => by rw [List.flatten_cons, List.length_append, flatten_length (fun e h => he e (by simp [h])), he e (by simp), List.length_cons, Nat.add_mul]; omega
/-- A slice's value out of its cells. -/
theorem rep_sl_of_flat {M : PM} {es : List (List V)} {n : Nat} {vs : List Value} {b z cap : Nat} {t : Tag} (hl : RepL M es.flatten vs) (he : ∀ e ∈ es, e.length = n) (hm : ∀ (i : Nat) (v : Value), vs[i]? = some v → M b (z + i) = some v)
    (hc : es.length ≤ cap) (ht : TagOk t (some ⟨b, z, none⟩) es.length cap n) : Rep M (.sl es false t) (.slice (some ⟨b, z, none⟩) es.length cap) := by
  have hget : ∀ i (hi : i < es.length) j (hj : j < (es[i]).length), ∃ v, vs[i * n + j]? = some v ∧ Rep M (es[i])[j] v := fun i hi j hj => hl.get (flatten_get he hi hj)
  refine .sl es false t _ _ cap n (fun i j => vs.getD (i * n + j) undef) rfl hc rfl (by intro h; cases h) (fun ad h => by cases h; exact fun _ => rfl) (fun i hi => he _ (List.getElem_mem hi)) ?_ ?_ ht
  · intro ad had i hi j hj
    cases had
    have hjl : j < (es[i]).length := by rw [he _ (List.getElem_mem hi)]; exact hj
    obtain ⟨v, hv, _⟩ := hget i hi j hjl
    rw [List.getD_eq_getElem?_getD, hv]
    exact hm _ _ hv
  · intro i hi j hj
    obtain ⟨v, hv, hr⟩ := hget i hi j hj
    show Rep M _ (vs.getD (i * n + j) undef)
    rw [List.getD_eq_getElem?_getD, hv]
    exact hr
theorem PM.add_self {M : PM} {b : Nat} {arr : Array Value} {i : Nat} {v : Value} (h : arr[i]? = some v) : (M.add b arr) b i = some v := by unfold PM.add; rw [if_pos rfl]; exact h

theorem freeze_last (w : World) (arr : Array Value) (T : TypeId) (n : Nat) : (w.alloc (.cells arr T)).freeze ⟨w.heap.size, n, none⟩ 1 = w.alloc (.cells arr T (n, n + 1)) := by
  unfold World.freeze
  rw [if_neg (by omega)]
  show ({ w.alloc (.cells arr T) with heap := (w.heap.push (.cells arr T)).modify w.heap.size _ } : World) = { w with heap := w.heap.push (.cells arr T (n, n + 1)) }
  have : (w.heap.push (.cells arr T)).modify w.heap.size (fun
      | .cells c elem (lo, hi) => .cells c elem (if lo == hi then (n, n + 1) else (min lo n, max hi (n + 1)))
      | o => o) = w.heap.push (.cells arr T (n, n + 1)) := by
    apply Array.ext
    · simp
    · intro i h1 h2
      rw [Array.getElem_modify]
      split
      · rename_i e; subst e; simp
      · rw [Array.getElem_push, Array.getElem_push]
        split
        · rfl
        · rename_i hne hlt; simp at h2; omega
  rw [← this]
  rfl

section
variable {P : Program} {E : Env} {M : PM} {G : Heap} {w : World} {f : FF} {a : Act}
theorem zero_fill {n len : Nat} {z : V} {zv : Value} {zs : Array Value} (hzc : RepL M (cellsV z) zv.cells.toList) (hzn : (cellsV z).length = n) (hzs2 : len * n ≠ 0 → zs = zv.cells) :
    RepL M (List.replicate len (cellsV z)).flatten (((Array.range (len * n)).map (fun i => zs[i % zs.size]!)).toList) := by
  have hzsz : zv.cells.size = n := by have := hzc.1; rw [hzn] at this; simpa using this.symm
  by_cases h0 : len * n = 0
  · rw [h0]
    have : (List.replicate len (cellsV z)).flatten = [] := List.eq_nil_of_length_eq_zero (by rw [flatten_length (n := n) (fun e he => by rw [(List.mem_replicate.1 he).2]; exact hzn)]; simpa using h0)
    have h2 : ((Array.range 0).map (fun i => zs[i % zs.size]!)).toList = [] := by simp
    rw [this, h2]
    exact RepL.nil
  · rw [hzs2 h0]
    have hn0 : 0 < n := Nat.pos_of_ne_zero (fun q => h0 (by rw [q]; simp))
    have hall : ∀ e ∈ List.replicate len (cellsV z), e.length = n := fun e he => by rw [(List.mem_replicate.1 he).2]; exact hzn
    refine ⟨by rw [flatten_length hall]; simp, fun i hi => ?_⟩
    have hi2 : i < len * n := by rw [flatten_length hall] at hi; simpa using hi
    have hdiv : i / n < len := by rw [Nat.div_lt_iff_lt_mul hn0]; exact hi2
    have hmod : i % n < n := Nat.mod_lt _ hn0
    have hq : (List.replicate len (cellsV z)).flatten[(i / n) * n + i % n]? = some ((cellsV z)[i % n]'(by rw [hzn]; exact hmod)) := by
      have := flatten_get hall (i := i / n) (j := i % n) (by simpa using hdiv) (by simp [hzn]; exact hmod)
      rw [this]; simp
    have hdm : (i / n) * n + i % n = i := by rw [Nat.mul_comm]; exact Nat.div_add_mod i n
    rw [hdm] at hq
    have hq' : (List.replicate len (cellsV z)).flatten[i] = (cellsV z)[i % n]'(by rw [hzn]; exact hmod) := by
      have := List.getElem?_eq_getElem hi
      rw [this] at hq; exact Option.some.inj hq
    rw [hq']
    have hr := hzc.2 (i % n) (by rw [hzn]; exact hmod)
    rw [List.getD_eq_getElem?_getD] at hr ⊢
    simp only [Array.getElem?_toList] at hr
    obtain ⟨x, hx⟩ : ∃ x, zv.cells[i % n]? = some x := ⟨_, Array.getElem?_eq_getElem (by rw [hzsz]; exact hmod)⟩
    have e1 : ((Array.range (len * n)).map (fun i => zv.cells[i % zv.cells.size]!)).toList[i]? = some x := by
      simp only [Array.getElem?_toList, Array.getElem?_map, Array.getElem?_range, hi2, if_true, Option.map_some, hzsz]
      rw [getElem!_def, hx]
    rw [e1]
    rw [hx] at hr
    exact hr

theorem buildSlice_ok {t e : TypeId} {n len : Nat} {ps : Array (Nat × Operand)} {z : V} {es : List (List V)} (hm : Mem E M G w) (hf : RepG M f a.tmps) (ht : tslice P t = some (e, n)) (hz : tzero P e = some z) (hp : plainV z = true) (hzn : (cellsV z).length = n)
    (hlen : len * n ≤ 16777216) (h : fillE n f (List.replicate len (cellsV z)) ps.toList = some es) : ∃ arr, M.le (M.add w.heap.size arr) ∧ (∀ fr, Mem E (M.add w.heap.size arr) G (w.alloc (.cells arr e fr))) ∧ Rep (M.add w.heap.size arr) (.sl es false .full) (.slice (some ⟨w.heap.size, 0, none⟩) len len) ∧ (Instr.buildSlice t len (ps.map fun (i, x) => (i, a.eval x))).run P w = .ok (.slice (some ⟨w.heap.size, 0, none⟩) len len) (w.alloc (.cells arr e)) := by
  obtain ⟨hu, hs⟩ := tslice_info ht
  obtain ⟨zv, hzv, hzr⟩ := run_zeroValue hz w
  have hzc := plainV_cells hp (hzr M)
  have hzsz : zv.cells.size = n := by have := hzc.1; rw [hzn] at this; simpa using this.symm
  have hlim : ¬ (len * n > 2 ^ 24) := by simpa using hlen
  have hz0 : ∃ zs : Array Value, ((if len * n = 0 then Pure.pure #[] else do let x ← zeroValue e; Pure.pure x.cells : Sem (Array Value))).run P w = .ok zs w ∧ (len * n ≠ 0 → zs = zv.cells) := by
    by_cases h0 : len * n = 0
    · exact ⟨#[], by rw [if_pos h0]; rfl, fun q => absurd h0 q⟩
    · refine ⟨zv.cells, ?_, fun _ => rfl⟩
      rw [if_neg h0]
      simp only [Sem.run_bind, hzv, Result.andThen_ok, Sem.run_pure]
  obtain ⟨zs, hzs1, hzs2⟩ := hz0
  have hinit := zero_fill (M := M) (len := len) hzc hzn hzs2
  obtain ⟨arr, harr, hl, he, hlen'⟩ := fillE_rep hf h (fun e he => by rw [(List.mem_replicate.1 he).2]; exact hzn) hinit
  have hle := hm.le_add arr
  refine ⟨arr, hle, fun fr => hm.lit arr e fr, ?_, ?_⟩
  · have hl2 : es.length = len := by simpa using hlen'
    have := rep_sl_of_flat (b := w.heap.size) (z := 0) (cap := len) (t := .full) (hl.mono hle) he (fun i v hv => by rw [Nat.zero_add]; exact PM.add_self (by simpa using hv)) (by omega) hl2
    rw [hl2] at this
    exact this
  · simp only [Instr.buildSlice, Sem.run_bind, run_underlying hu, Result.andThen_ok, run_sizeOf hs, hlim, if_false, hzs1]
    have hps : (ps.map fun (i, x) => (i, a.eval x)).toList = ps.toList.map fun (i, x) => (i, a.eval x) := by simp
    by_cases h0 : len * n = 0
    · rw [if_pos h0] at hzs1 ⊢
      simp only [Sem.run_pure, Result.ok.injEq, and_true] at hzs1
      subst hzs1
      simp only [Sem.run_bind, Sem.run_pure, Result.andThen_ok]
      rw [hps, harr]
      rfl
    · rw [if_neg h0] at hzs1 ⊢
      simp only [Sem.run_bind, hzv, Sem.run_pure, Result.andThen_ok, Result.ok.injEq, and_true] at hzs1
      subst hzs1
      simp only [Sem.run_bind, hzv, Sem.run_pure, Result.andThen_ok]
      rw [hps, harr]
      rfl
theorem ans_buildSlice {t e : TypeId} {n len : Nat} {ps : Array (Nat × Operand)} {z : V} {es : List (List V)} (hm : Mem E M G w) (hf : RepG M f a.tmps) (ht : tslice P t = some (e, n)) (hz : tzero P e = some z) (hp : plainV z = true) (hzn : (cellsV z).length = n)
    (hlen : len * n ≤ 16777216) (h : fillE n f (List.replicate len (cellsV z)) ps.toList = some es) : Ans P E M G w (Instr.buildSlice t len (ps.map fun (i, x) => (i, a.eval x))) (.sl es false .full) := by
  obtain ⟨arr, h1, h2, h3, h4⟩ := buildSlice_ok hm hf ht hz hp hzn hlen h
  exact ⟨_, _, _, h1, h2 (0, 0), h3, h4⟩
end
end Go.Proofs.YtomjghlaoncpbaaV
