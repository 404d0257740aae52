/-
  append: in place where there is room, or into a new row.
-/
import Derived.Test.YtomjghlaoncpbaaVja
namespace Go.Proofs.YtomjghlaoncpbaaV
open Go.RowKit
set_option linter.unusedVariables false
set_option linter.unusedSimpArgs false

section
variable {P : Program} {E : Env} {M : PM} {G : Heap} {w : World}
theorem heap_setCell_vars (w : World) {b : Nat} {arr : Array Value} {T : TypeId} {fr : Nat × Nat} (h : w.heap[b]? = some (.cells arr T fr)) (o : Nat) (v : Value) :
    (w.setCell ⟨b, o, none⟩ v).heap[b]? = some (.cells (arr.setIfInBounds o v) T fr) := by
  unfold World.setCell
  simp only [Array.getElem?_modify]
  rw [if_pos trivial, h]
  rfl
theorem heap_setCell_ne (w : World) {b b' : Nat} (h : b' ≠ b) (o : Nat) (v : Value) : (w.setCell ⟨b, o, none⟩ v).heap[b']? = w.heap[b']? := by
  unfold World.setCell
  simp only [Array.getElem?_modify]
  rw [if_neg (fun e => h e.symm)]
theorem setCells_below {B : Nat} : ∀ (vs : List Value) {w0 w : World} (b o : Nat), Below B w0 w → B ≤ b → Below B w0 (w.setCells b o vs)
  | [], w0, w, b, o, h, hB => h
  | v :: vs, w0, w, b, o, h, hB => setCells_below vs b (o + 1) (h.setCell (p := ⟨b, o, none⟩) hB v) hB
theorem setCells_ne : ∀ (vs : List Value) {w : World} {b b' : Nat} (o : Nat), b' ≠ b → (w.setCells b o vs).heap[b']? = w.heap[b']?
  | [], w, b, b', o, h => rfl
  | v :: vs, w, b, b', o, h => by
    show ((w.setCell ⟨b, o, none⟩ v).setCells b (o + 1) vs).heap[b']? = _
    rw [setCells_ne vs (o + 1) h, heap_setCell_ne w h]
theorem setCells_at : ∀ (vs : List Value) {w : World} {b : Nat} {arr : Array Value} {T : TypeId} {fr : Nat × Nat} (o : Nat), w.heap[b]? = some (.cells arr T fr) → o + vs.length ≤ arr.size →
    ∃ arr', (w.setCells b o vs).heap[b]? = some (.cells arr' T fr) ∧ arr'.size = arr.size ∧ (∀ (i : Nat) (v : Value), vs[i]? = some v → arr'[o + i]? = some v) ∧ ∀ (i : Nat), i < o ∨ o + vs.length ≤ i → arr'[i]? = arr[i]?
  | [], w, b, arr, T, fr, o, h, hs => ⟨arr, h, rfl, fun i v hv => by simp at hv, fun i _ => rfl⟩
  | v :: vs, w, b, arr, T, fr, o, h, hs => by
    simp only [List.length_cons] at hs
    obtain ⟨arr', h1, h2, h3, h4⟩ := setCells_at vs (o + 1) (heap_setCell_vars w h o v) (by simp; omega)
    refine ⟨arr', h1, by simpa using h2, fun i u hu => ?_, fun i hi => ?_⟩
    · cases i with
      | zero =>
        have := h4 o (.inl (by omega))
        rw [Nat.add_zero, this]
        simp at hu; subst hu
        rw [Array.getElem?_setIfInBounds]
        simp; omega
      | succ i =>
        have := h3 i u (by simpa using hu)
        rw [show o + (i + 1) = o + 1 + i by omega]; exact this
    · simp only [List.length_cons] at hi
      rw [h4 i (by omega), Array.getElem?_setIfInBounds_ne (by omega)]

/-- The memory behind an append in place. -/
theorem Mem.room (hm : Mem E M G w) {b e c : Nat} (hb : hget G b = some (.top e c)) {news : List Value} (hfit : e + news.length ≤ c) :
    M.le (M.addR b e news) ∧ Mem E (M.addR b e news) ((b, .top (e + news.length) c) :: hdel G b) (w.setCells b e news) := by
  obtain ⟨hB, arr, T, fr, h2, h3, h4, h5⟩ := hm.obj b _ hb
  have hle : M.le (M.addR b e news) := PM.le_addR h5
  obtain ⟨arr', k1, k2, k3, k4⟩ := setCells_at news e h2 (by omega)
  refine ⟨hle, setCells_below news b e hm.below hB, hm.base, fun b' o' u hu => ?_, fun b' ob hob => ?_⟩
  · unfold PM.addR at hu
    split at hu
    · rename_i hc
      obtain ⟨rfl, hc1, hc2⟩ := hc
      unfold World.cell?
      simp only [k1, Option.isSome_none, Bool.false_eq_true, if_false]
      have := k3 _ _ hu
      rwa [show e + (o' - e) = o' by omega] at this
    · rename_i hc
      have hold := hm.pm _ _ _ hu
      by_cases hbb : b' = b
      · subst hbb
        unfold World.cell? at hold ⊢
        simp only [h2, k1, Option.isSome_none, Bool.false_eq_true, if_false] at hold ⊢
        have hlt : o' < e := by
          rcases Nat.lt_or_ge o' e with q | q
          · exact q
          · rw [h5 o' q] at hu; cases hu
        rw [k4 o' (.inl hlt)]; exact hold
      · rw [World.cell?_of_block (w := w) (a := ⟨b', o', none⟩) (setCells_ne news e hbb)]; exact hold
  · rw [hget_cons] at hob
    by_cases hbb : b = b'
    · subst hbb
      rw [if_pos rfl] at hob
      cases hob
      refine ⟨hB, arr', T, fr, k1, by omega, fun i h1 h2 => h4 i (by omega) h2, fun o ho => ?_⟩
      unfold PM.addR
      rw [if_neg (by omega)]; exact h5 o (by omega)
    · rw [if_neg hbb] at hob
      obtain ⟨hne, hob⟩ := hget_hdel hob
      refine ⟨(hm.obj _ _ hob).1, ?_⟩
      have hok := ObjOk.grow (hm.obj _ _ hob).2 hle (fun i => by unfold PM.addR; rw [if_neg (by rintro ⟨q, _⟩; exact hne q)])
      have hk : ∀ (k : Nat), k ≠ b → (w.setCells b e news).heap[k]? = w.heap[k]? := fun k hk => setCells_ne news e hk
      cases ob with
      | vars cs' => obtain ⟨arr', T', fr', g1, r⟩ := hok; exact ⟨arr', T', fr', by rw [hk _ hne]; exact g1, r⟩
      | top e c => obtain ⟨arr', T', fr', g1, r⟩ := hok; exact ⟨arr', T', fr', by rw [hk _ hne]; exact g1, r⟩
      | map kvs => obtain ⟨es, ck, g1, r⟩ := hok; exact ⟨es, ck, by rw [hk _ hne]; exact g1, r⟩
      | siter s pos => show _ = _; rw [hk _ hne]; exact hok
      | miter m todo => obtain ⟨s1, s2, s3, g1⟩ := hok; exact ⟨s1, s2, s3, by rw [hk _ hne]; exact g1⟩

/-- The memory behind an append into a new row. -/
theorem Mem.grown (hm : Mem E M G w) {vs : List Value} {arr : Array Value} (T : TypeId) {c : Nat} (hvs : ∀ (i : Nat) (v : Value), vs[i]? = some v → arr[i]? = some v) (hc : c ≤ arr.size) (hlen : vs.length ≤ c) :
    M.le (M.addR w.heap.size 0 vs) ∧ hget G w.heap.size = none ∧ Mem E (M.addR w.heap.size 0 vs) ((w.heap.size, .top vs.length c) :: G) (w.drew.alloc (.cells arr T)) := by
  have hG : hget G w.heap.size = none := by
    cases hq : hget G w.heap.size with
    | none => rfl
    | some o => have := (hm.obj _ _ hq).2.lt; omega
  have hle : M.le (M.addR w.heap.size 0 vs) := PM.le_addR fun o _ => hm.none_new (Nat.le_refl _) o
  have ha := (hm.drew).alloc (.cells arr T)
  have hh : (w.drew.alloc (.cells arr T)).heap[w.heap.size]? = some (.cells arr T) := by show (w.heap.push _)[w.heap.size]? = _; simp
  refine ⟨hle, hG, ha.below, ha.base, fun b' o' u hu => ?_, fun b' ob hob => ?_⟩
  · unfold PM.addR at hu
    split at hu
    · rename_i hc
      obtain ⟨rfl, hc1, hc2⟩ := hc
      unfold World.cell?
      simp only [hh, Option.isSome_none, Bool.false_eq_true, if_false]
      exact hvs _ _ (by simpa using hu)
    · exact ha.pm _ _ _ hu
  · rw [hget_cons] at hob
    by_cases hbb : w.heap.size = b'
    · subst hbb
      rw [if_pos rfl] at hob
      cases hob
      refine ⟨hm.size, arr, T, (0, 0), hh, hc, fun i h1 h2 q => by omega, fun o ho => ?_⟩
      unfold PM.addR
      rw [if_neg (by omega)]; exact hm.none_new (Nat.le_refl _) o
    · rw [if_neg hbb] at hob
      exact ⟨(ha.obj _ _ hob).1, ObjOk.grow (ha.obj _ _ hob).2 hle (fun i => by unfold PM.addR; rw [if_neg (by rintro ⟨q, _⟩; exact hbb q.symm)])⟩

theorem append_nothing {tx ty rt e : TypeId} {n : Nat} {es : List (List V)} {nl : Bool} {t : Tag} {u y : Value} (hr : Rep M (.sl es nl t) u) (ht : tslice P tx = some (e, n)) (hs : Src P n ty y 0 [] w) :
    (Builtin.append_ #[tx, ty] rt #[u, y]).run P w = .ok u w := by
  obtain ⟨a, c, rfl, hc, hn⟩ := sl_inv hr
  obtain ⟨hu, hsz⟩ := tslice_info ht
  obtain ⟨i, hi, rfl⟩ := tsz_info hsz
  rcases hs.kind with ⟨e', hk⟩ | hk <;> cases a <;>
    simp [Builtin.append_, run_underlying hu, run_underlying hk, sizeOf, typeInfo, hi, hs.len, hc, hs.cells, storeCells]

theorem append_ok {tx ty rt e : TypeId} {n k : Nat} {es ys : List (List V)} {nl : Bool} {t : Tag} {u y : Value} {Y : V} {z : V} (hm : Mem E M G w) (hr : Rep M (.sl es nl t) u) (hy : Rep M Y y) (ht : tslice P tx = some (e, n)) (hsrc : srcV P ty Y = some ys)
    (hk : tbytes P e = some k) (hz : tzero P e = some z) (hzp : plainV z = true) (hzl : (cellsV z).length = n) (hn : 0 < n) (hwe : wid n es) (hwy : wid n ys) (hsy : sca ys) (hsize : (es.length + ys.length) * k ≤ 140737488355328) (hsize2 : es.length + ys.length ≤ 9223372036854775807)
    (htop : ys ≠ [] → match t with | .full => True | .top s b e c => s = n ∧ hget G b = some (.top e c) | .no => False) :
    ∃ M' w' v, M.le M' ∧ (Builtin.append_ #[tx, ty] rt #[u, y]).run P w = .ok v w' ∧
      ((ys = [] ∧ M' = M ∧ w' = w ∧ v = u) ∨
       (ys ≠ [] ∧ ∃ b' e' c', Rep M' (.sl (es ++ ys) false (.top n b' e' c')) v ∧
          ((hget G b' = none ∧ Mem E M' ((b', .top e' c') :: G) w') ∨ (∃ s e0, t = .top s b' e0 c' ∧ Mem E M' ((b', .top e' c') :: hdel G b') w')))) := by
  obtain ⟨news, hnews, hs⟩ := src_ok hm hy hsrc hwy hsy hn
  by_cases hnil : ys = []
  · subst hnil
    have hne : news = [] := List.eq_nil_of_length_eq_zero hnews.1.symm
    subst hne
    exact ⟨M, w, u, M.le_refl, append_nothing hr ht hs, .inl ⟨rfl, rfl, rfl, rfl⟩⟩
  · have htop' := htop hnil
    obtain ⟨hu, hsz⟩ := tslice_info ht
    obtain ⟨i, hi, hin⟩ := tsz_info hsz
    obtain ⟨i2, zv, hi2, hzv, hzr⟩ := tzero_info hz
    have : i2 = i := by rw [hi] at hi2; exact (Option.some.inj hi2).symm
    subst this
    have hbytes : i2.bytes = k := by unfold tbytes at hk; rw [hi] at hk; simpa using hk
    have hnl : news.length = ys.length * n := by rw [← hnews.1, flatten_length hwy]
    have hypos : 0 < ys.length := List.length_pos_iff.2 hnil
    cases hr with
    | sl es nl t a len cap sz g hl hc hnn hz0 hsp he hmm hrr htag =>
      subst hl
      have hflat : ∃ olds, RepL M es.flatten olds ∧ (∀ (j : Nat) (v : Value), olds[j]? = some v → ∃ ad, a = some ad ∧ M ad.block (ad.off + j) = some v) ∧ olds.length = es.length * n := by
        by_cases hes : es = []
        · subst hes
          exact ⟨[], RepL.nil, fun j v h => by simp at h, by simp⟩
        · have hszn : sz = n := by
            cases es with
            | nil => exact absurd rfl hes
            | cons e0 es => rw [← he 0 (by simp)]; exact hwe _ (by simp)
          subst hszn
          refine ⟨(List.range (es.length * sz)).map (fun i => g (i / sz) (i % sz)), ⟨by rw [flatten_length hwe]; simp, fun i hi => ?_⟩, fun j v hj => ?_, by simp⟩
          · have hi' : i < es.length * sz := by rw [flatten_length hwe] at hi; exact hi
            have hq : i / sz < es.length := by rw [Nat.div_lt_iff_lt_mul hn]; exact hi'
            have hr' : i % sz < sz := Nat.mod_lt _ hn
            have h0 : i % sz < (es[i / sz]).length := by rw [he _ hq]; exact hr'
            have hfl := flatten_get hwe hq h0
            have hdm : i / sz * sz + i % sz = i := by rw [Nat.mul_comm]; exact Nat.div_add_mod i sz
            rw [hdm] at hfl
            have e1 : es.flatten[i] = (es[i / sz])[i % sz] := by
              rw [List.getElem?_eq_getElem hi] at hfl; exact Option.some.inj hfl
            rw [e1, List.getD_eq_getElem?_getD]
            simp only [List.getElem?_map, List.getElem?_range hi', Option.map_some, Option.getD_some]
            exact hrr _ hq _ h0
          · rw [List.getElem?_map] at hj
            cases hq0 : (List.range (es.length * sz))[j]? with
            | none => rw [hq0] at hj; cases hj
            | some k =>
              obtain ⟨h1, h2⟩ := List.getElem?_eq_some_iff.1 hq0
              have hi' : j < es.length * sz := by simpa using h1
              have : k = j := by simpa using h2.symm
              subst this
              have hq : k / sz < es.length := by rw [Nat.div_lt_iff_lt_mul hn]; exact hi'
              have hr' : k % sz < sz := Nat.mod_lt _ hn
              cases a with
              | none =>
                have h0 : es.length = 0 := by have := hz0 rfl; omega
                rw [h0] at hq; exact absurd hq (Nat.not_lt_zero _)
              | some ad =>
                refine ⟨ad, rfl, ?_⟩
                have := hmm ad rfl _ hq _ hr'
                rw [show k / sz * sz + k % sz = k by rw [Nat.mul_comm]; exact Nat.div_add_mod k sz] at this
                rw [hq0] at hj
                simp only [Option.map_some, Option.some.injEq] at hj
                rw [this, hj]
      obtain ⟨olds, hold, holdm, holdl⟩ := hflat
      by_cases hroom : es.length + ys.length ≤ cap
      · -- in place
        have hneq : es.length ≠ cap := by omega
        cases t with
        | no => exact htop'.elim
        | full => exact absurd htag hneq
        | top s b e0 c0 =>
          obtain ⟨hs1, hg⟩ := htop'
          obtain ⟨hs2, ad, rfl, htag⟩ := htag
          rcases htag with htag | ⟨h3, h4, h5⟩
          · exact absurd htag hneq
          · have hads := hsp ad rfl (by omega)
            obtain ⟨ab, ao, asp⟩ := ad
            simp only at hads h3 h4 h5
            subst hads
            subst h3
            have hsn : sz = n := by omega
            subst hsn
            obtain ⟨hB, arr, T, fr, k1, k2, k3, k4⟩ := hm.obj _ _ hg
            have hfit : e0 + news.length ≤ c0 := by rw [hnl, ← h4, ← h5, Nat.add_assoc, ← Nat.add_mul]; exact Nat.add_le_add_left (Nat.mul_le_mul_right _ hroom) _
            have hcell : ∀ j, j < news.length → (w.cell? ⟨ab, ao + es.length * i2.size + j, none⟩).isSome = true := fun j hj => by
              rw [hin, h4]
              unfold World.cell?
              simp only [k1, Option.isSome_none, Bool.false_eq_true, if_false]
              rw [Array.getElem?_eq_getElem (by omega)]; rfl
            have hfz : ∀ j, j < news.length → w.frozen? ⟨ab, ao + es.length * i2.size + j, none⟩ = false := fun j hj => by
              rw [hin, h4]
              unfold World.frozen?
              simp only [k1]
              have := k3 (e0 + j) (by omega) (by omega)
              simp only [Bool.and_eq_false_iff, decide_eq_false_iff_not]
              by_cases q : fr.1 ≤ e0 + j
              · right; intro q2; exact this ⟨q, q2⟩
              · left; exact q
            have hrun := run_append_room_src (P := P) w tx ty rt e i2 hu hi ab ao es.length cap y ys.length news (by rw [hin]; exact hs) hroom hcell hfz
            rw [hin, h4] at hrun
            obtain ⟨q1, q2⟩ := hm.room hg hfit
            refine ⟨_, _, _, q1, hrun, .inr ⟨hnil, ab, e0 + news.length, c0, ?_, .inr ⟨s, e0, rfl, q2⟩⟩⟩
            have hl2 : RepL (M.addR ab e0 news) (es ++ ys).flatten (olds ++ news) := by
              rw [List.flatten_append]; exact (hold.mono q1).append (hnews.mono q1)
            have hw2 : ∀ e ∈ es ++ ys, e.length = sz := fun e he => by
              rcases List.mem_append.1 he with q | q
              · exact hwe e q
              · exact hwy e q
            have := rep_sl_of_flat (b := ab) (z := ao) (cap := cap) (t := .top sz ab (e0 + news.length) c0) hl2 hw2 (fun j v hj => by
              rw [List.getElem?_append] at hj
              split at hj
              · obtain ⟨ad', had, hmv⟩ := holdm j v hj
                cases had
                exact q1 _ _ _ hmv
              · rename_i hge
                have := PM.addR_in (M := M) (b := ab) (lo := e0) hj
                have e3 : e0 + (j - olds.length) = ao + j := by rw [holdl] at hge ⊢; rw [← h4]; clear this hj; omega
                rw [e3] at this
                exact this) (by simp; omega)
              ⟨rfl, _, rfl, .inr ⟨rfl, by show ao + (es ++ ys).length * sz = _; rw [List.length_append, Nat.add_mul, hnl]; omega, h5⟩⟩
            simpa using this
      · -- a new row
        have hzc := plainV_cells hzp (hzr M)
        have hzsz : zv.cells.size = n := by have := hzc.1; rw [hzl] at this; simpa using this.symm
        have hfirst : (Builtin.firstCells i2.size es.length (.slice a es.length cap)).run P w.drew = .ok olds.toArray w.drew := by
          cases a with
          | none =>
            have h0 := hz0 rfl
            have : olds = [] := List.eq_nil_of_length_eq_zero (by rw [holdl]; have : es.length = 0 := by omega
                                                                  rw [this]; simp)
            subst this
            exact run_firstCells_none w.drew _ _ _ _
          | some ad =>
            rcases Nat.eq_zero_or_pos cap with hc0 | hc0
            · have : olds = [] := List.eq_nil_of_length_eq_zero (by rw [holdl]; have : es.length = 0 := by omega
                                                                    rw [this]; simp)
              subst this
              exact run_firstCells_some w.drew i2.size es.length ad es.length cap [] (by rw [holdl, hin]) (fun j v hj => by simp at hj)
            have hads := hsp ad rfl hc0
            obtain ⟨ab, ao, asp⟩ := ad
            simp only at hads
            subst hads
            exact run_firstCells_some w.drew i2.size es.length ⟨ab, ao, none⟩ es.length cap olds (by rw [holdl, hin]) (fun j v hj => by
              obtain ⟨ad', had, hmv⟩ := holdm j v hj
              cases had
              rw [Addr.add_lit]
              exact hm.pm _ _ _ hmv)
        have hrun := run_append_grow_src (P := P) w tx ty rt e i2 zv hu hi hzv a es.length cap olds hfirst y ys.length news (by rw [hin]; exact hs) (by omega) (by omega) (growslice_fits (by omega) (by rw [hbytes]; exact hsize))
        have hcge := grownCap_ge w (es.length + ys.length) cap e
        have hvl : (olds ++ news).length = (es.length + ys.length) * n := by rw [List.length_append, holdl, hnl, Nat.add_mul]
        have hasz : ((olds ++ news).toArray ++ Builtin.zeroCells zv.cells (grownCap w (es.length + ys.length) cap e - (es.length + ys.length))).size = grownCap w (es.length + ys.length) cap e * n := by
          rw [Array.size_append, size_zeroCells, hzsz, List.size_toArray, hvl, ← Nat.add_mul]; congr 1; omega
        obtain ⟨q1, q2, q3⟩ := hm.grown (vs := olds ++ news) (arr := (olds ++ news).toArray ++ Builtin.zeroCells zv.cells (grownCap w (es.length + ys.length) cap e - (es.length + ys.length))) e (c := grownCap w (es.length + ys.length) cap e * n) (fun j v hj => by
          have hj2 : j < (olds ++ news).toArray.size := by
            rcases Nat.lt_or_ge j (olds ++ news).length with q | q
            · simpa using q
            · rw [List.getElem?_eq_none q] at hj; cases hj
          rw [Array.getElem?_append_left hj2]; simpa using hj) (by rw [hasz]; exact Nat.le_refl _) (by rw [hvl]; exact Nat.mul_le_mul_right _ hcge)
        refine ⟨_, _, _, q1, hrun, .inr ⟨hnil, w.heap.size, (olds ++ news).length, grownCap w (es.length + ys.length) cap e * n, ?_, .inl ⟨q2, q3⟩⟩⟩
        have hl2 : RepL (M.addR w.heap.size 0 (olds ++ news)) (es ++ ys).flatten (olds ++ news) := by
          rw [List.flatten_append]; exact (hold.mono q1).append (hnews.mono q1)
        have hw2 : ∀ e ∈ es ++ ys, e.length = n := fun e he => by
          rcases List.mem_append.1 he with q | q
          · exact hwe e q
          · exact hwy e q
        have := rep_sl_of_flat (b := w.heap.size) (z := 0) (cap := grownCap w (es.length + ys.length) cap e) (t := .top n w.heap.size (olds ++ news).length (grownCap w (es.length + ys.length) cap e * n)) hl2 hw2
          (fun j v hj => PM.addR_in hj) (by simpa using hcge) ⟨rfl, _, rfl, .inr ⟨rfl, by rw [hvl]; simp, by simp⟩⟩
        simpa using this
end
end Go.Proofs.YtomjghlaoncpbaaV
