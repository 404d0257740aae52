/-
  Maps whose keys are texts or whole numbers: looked up, put, made.
-/
import Derived.Test.YtomjghlaoncpbaaVh
import Derived.MapKept
namespace Go.Proofs.YtomjghlaoncpbaaV
open Go.RowKit
set_option linter.unusedVariables false
set_option linter.unusedSimpArgs false
section
variable {P : Program} {E : Env} {M : PM} {G : Heap} {w : World}
theorem beq_bytes (a b : List UInt8) : ((⟨a.toArray⟩ : ByteArray) == (⟨b.toArray⟩ : ByteArray)) = decide (a = b) := by
  rw [beq_toListBytes, bytes_toList, bytes_toList, Bool.eq_iff_iff]; simp
theorem tmap_info {t kt : TypeId} {z : V} (h : tmap P t = some (kt, z)) : ∃ e, P.underlying t = some (.map kt e) ∧ tzero P e = some z := by
  unfold tmap at h
  split at h
  · rename_i k e hu
    split at h
    · rename_i z' hz; cases h; exact ⟨e, hu, hz⟩
    · cases h
  · cases h
/-- A key is one, and how two of them are compared. -/
theorem simpleKey_ok {kt : TypeId} {K : V} {k : Value} (h : simpleKey P kt K = true) (hr : Rep M K k) : ∃ d, P.underlying kt = some d ∧ MapKept.IsKey d k ∧ Instr.sameBits 10000 k k = true ∧
    ∀ {K' : V} {k' : Value} {b : Bool}, keyEq K K' = some b → Rep M K' k' → Instr.sameNow d k k' = some b ∧ (b = true → k' = k) := by
  unfold simpleKey at h
  split at h
  · rename_i s
    obtain rfl := hr.str_inv
    refine ⟨.string, isStr_info h, trivial, by simp [Instr.sameBits, beq_bytes], fun {K' k' b} hk hr' => ?_⟩
    unfold keyEq at hk
    split at hk
    · rename_i a c e1
      cases e1
      obtain rfl := hr'.str_inv
      cases hk
      refine ⟨?_, fun e => ?_⟩
      · simp only [Instr.sameNow, beq_bytes]
      · have : s = c := by simpa using e
        rw [this]
    · rename_i e1; cases e1
    · cases hk
  · rename_i j n
    obtain rfl := hr.int_inv
    split at h
    · rename_i j' hj
      have e : j = j' := by simpa using h
      subst e
      have hu : P.underlying kt = some (.int j) := by
        unfold intKindOf at hj
        split at hj
        · rename_i k2 hk2; cases hj; exact hk2
        · cases hj
      refine ⟨.int j, hu, rfl, by simp [Instr.sameBits], fun {K' k' b} hk hr' => ?_⟩
      unfold keyEq at hk
      split at hk
      · rename_i e1; cases e1
      · rename_i k1 a k2 c e1
        cases e1
        obtain rfl := hr'.int_inv
        split at hk
        · rename_i e2
          subst e2
          cases hk
          refine ⟨?_, fun e => ?_⟩
          · simp only [Instr.sameNow, if_true, Option.some.injEq]
            rw [Bool.eq_iff_iff]
            simp
          · have : n = c := by simpa using e
            rw [this]
        · cases hk
      · cases hk
    · cases h
  · cases h
/-- The machine finds what mfind finds. -/
theorem findNow_ok {d : TypeDesc} {K : V} {k : Value} (hk : ∀ {K' : V} {k' : Value} {b : Bool}, keyEq K K' = some b → Rep M K' k' → Instr.sameNow d k k' = some b ∧ (b = true → k' = k)) :
    ∀ {kvs : List (V × V)} {es : List MapEntry} {i : Nat} {r : Option (Nat × V)}, kvs.length = es.length → (∀ j (h : j < kvs.length), Rep M (kvs[j]).1 (es.getD j default).key ∧ Rep M (kvs[j]).2 (es.getD j default).val) → mfind K kvs i = some r →
      (r = none ∧ Instr.findNow d k es i = some none) ∨ ∃ j x v e, r = some (i + j, x) ∧ Instr.findNow d k es i = some (some (i + j, v)) ∧ Rep M x v ∧ es[j]? = some e ∧ e.key = k ∧ j < kvs.length
  | [], [], i, r, _, _, h => by simp only [mfind, Option.some.injEq] at h; subst h; exact .inl ⟨rfl, rfl⟩
  | [], _ :: _, i, r, hl, _, _ => by simp at hl
  | _ :: _, [], i, r, hl, _, _ => by simp at hl
  | (K', X) :: kvs, e :: es, i, r, hl, hr, h => by
    have h0 := hr 0 (by simp)
    simp only [mfind] at h
    split at h
    · rename_i hb
      simp only [Option.some.injEq] at h
      subst h
      obtain ⟨g1, g2⟩ := hk hb h0.1
      refine .inr ⟨0, X, e.val, e, rfl, ?_, h0.2, rfl, g2 rfl, by simp⟩
      have g1 : Instr.sameNow d k e.key = some true := g1
      simp only [Instr.findNow, g1, Nat.add_zero]
    · rename_i hb
      obtain ⟨g1, _⟩ := hk hb h0.1
      have g1 : Instr.sameNow d k e.key = some false := g1
      rcases findNow_ok hk (by simpa using hl) (fun j hj => hr (j + 1) (by simpa using hj)) h with ⟨q1, q2⟩ | ⟨j, x, v, e', q1, q2, q3, q4, q5, q6⟩
      · exact .inl ⟨q1, by simp only [Instr.findNow, g1]; exact q2⟩
      · exact .inr ⟨j + 1, x, v, e', by rw [q1]; congr 2; omega, by simp only [Instr.findNow, g1]; rw [q2]; congr 3; omega, q3, q4, q5, by simp; omega⟩
    · cases h
theorem obj_list {kvs : List (V × V)} {es : Array MapEntry} (h : es.size = kvs.length) (hr : ∀ i (h : i < kvs.length), Rep M (kvs[i]).1 (es.getD i default).key ∧ Rep M (kvs[i]).2 (es.getD i default).val) :
    kvs.length = es.toList.length ∧ ∀ j (h : j < kvs.length), Rep M (kvs[j]).1 (es.toList.getD j default).key ∧ Rep M (kvs[j]).2 (es.toList.getD j default).val := by
  refine ⟨by simp [h], fun j hj => ?_⟩
  have := hr j hj
  rw [Array.getD_eq_getD_getElem?] at this
  rw [List.getD_eq_getElem?_getD, Array.getElem?_toList]; exact this
theorem lkR_rep {okk b : Bool} {x : V} {v : Value} (hr : Rep M x v) : Rep M (lkR okk x b) (if okk then .tuple #[v, .bool b] else v) := by
  cases okk
  · exact hr
  · exact RepL.tup (vs := [v, .bool b]) (.cons hr (.cons (.bool b) .nil))
theorem ans_lookup {t kt : TypeId} {K X z x : V} {k u : Value} {okk : Bool} {C : Prop} (hm : Mem E M G w) (ht : tmap P t = some (kt, z)) (hs : simpleKey P kt K = true) (hK : Rep M K k) (hX : Rep M X u) (h : lookV G K z okk X = some (C, x)) :
    Ans P E M G w (Instr.lookup t u k okk) x := by
  obtain ⟨e, hu, hz⟩ := tmap_info ht
  obtain ⟨d, hd, hkey, _, hcmp⟩ := simpleKey_ok hs hK
  obtain ⟨zv, hzv, hzr⟩ := run_zeroValue hz w
  unfold lookV at h
  split at h
  · obtain rfl := hX.nilm_inv
    simp only [ok, Option.some.injEq, Prod.mk.injEq] at h
    obtain ⟨_, rfl⟩ := h
    refine .pure hm (lkR_rep (b := false) (hzr M)) ?_
    have hf : (Instr.findKey kt k []).run P w = .ok none w := MapKept.run_findKey hd rfl
    simp only [Instr.lookup, Sem.run_bind, run_underlying hu, Result.andThen_ok, Sem.run_pure, MapKept.run_checkKey hd hkey, hf, hzv]
  · rename_i b
    obtain rfl := hX.map_inv
    split at h
    · rename_i kvs hb
      obtain ⟨_, es, ck, h1, h2, h3, _⟩ := hm.obj b _ hb
      obtain ⟨l1, l2⟩ := obj_list h2 h3
      cases hmf : mfind K kvs 0 with
      | none => rw [hmf] at h; cases h
      | some r =>
        rw [hmf] at h
        rcases findNow_ok hcmp l1 l2 hmf with ⟨rfl, q2⟩ | ⟨j, y, v, e', rfl, q2, q3, _⟩
        · simp only [lkF, ok, Option.some.injEq, Prod.mk.injEq] at h
          obtain ⟨_, rfl⟩ := h
          refine .pure hm (lkR_rep (b := false) (hzr M)) ?_
          have hf : (Instr.findKey kt k es.toList).run P w = .ok none w := MapKept.run_findKey hd q2
          simp only [Instr.lookup, Sem.run_bind, run_underlying hu, Result.andThen_ok, Sem.run_pure, MapKept.run_getObj_map h1, MapKept.run_checkKey hd hkey, hf, hzv]
        · simp only [lkF, ok, Option.some.injEq, Prod.mk.injEq] at h
          obtain ⟨_, rfl⟩ := h
          refine .pure hm (lkR_rep (b := true) q3) ?_
          have hf : (Instr.findKey kt k es.toList).run P w = .ok (some (0 + j, v)) w := MapKept.run_findKey hd q2
          simp only [Instr.lookup, Sem.run_bind, run_underlying hu, Result.andThen_ok, Sem.run_pure, MapKept.run_getObj_map h1, MapKept.run_checkKey hd hkey, hf]
    · cases h
  · cases h
theorem Mem.setMap (hm : Mem E M G w) {b : Nat} {kvs kvs' : List (V × V)} (hb : hget G b = some (.map kvs)) {es' : Array MapEntry} {ck' : Nat} (h2 : es'.size = kvs'.length)
    (h3 : ∀ i (h : i < kvs'.length), Rep M (kvs'[i]).1 (es'.getD i default).key ∧ Rep M (kvs'[i]).2 (es'.getD i default).val)
    (h4 : ∀ i j, i < es'.size → j < es'.size → (es'.getD i default).born = (es'.getD j default).born → i = j) (h5 : ∀ i, i < es'.size → (es'.getD i default).born < ck') :
    Mem E M (hset G b (.map kvs')) { w with heap := w.heap.setIfInBounds b (.map es' ck') } := by
  obtain ⟨hB, es, ck, h1, _⟩ := hm.obj b _ hb
  obtain ⟨k1, k2⟩ := MapKept.heap_set (o' := .map es' ck') h1
  have hcell : ∀ b' o v, w.cell? ⟨b', o, none⟩ = some v → ({ w with heap := w.heap.setIfInBounds b (.map es' ck') } : World).cell? ⟨b', o, none⟩ = some v := fun b' o v hv => by
    have hne : b' ≠ b := by
      intro e
      subst e
      unfold World.cell? at hv
      simp only [h1] at hv
      cases hv
    rw [World.cell?_of_block (w := w) (a := ⟨b', o, none⟩) (k2 _ hne)]
    exact hv
  refine ⟨⟨hm.below.os, hm.below.tape, hm.below.output, by simpa using hm.below.size, fun k hk => ?_⟩, hm.base, fun b' o v hv => hcell _ _ _ (hm.pm _ _ _ hv), fun b' ob hob => ?_⟩
  · show (w.heap.setIfInBounds b (.map es' ck'))[k]? = _
    rw [k2 k (by omega)]; exact hm.below.block k hk
  · rcases hget_hset hob with ⟨rfl, rfl⟩ | ⟨hne, hob⟩
    · exact ⟨hB, es', ck', k1, h2, h3, h4, h5⟩
    · refine ⟨(hm.obj _ _ hob).1, ?_⟩
      have hok := (hm.obj _ _ hob).2
      cases ob with
      | vars cs' => obtain ⟨arr', T', fr', g1, r⟩ := hok; exact ⟨arr', T', fr', by show (w.heap.setIfInBounds b (.map es' ck'))[b']? = _; rw [k2 _ hne]; exact g1, r⟩
      | top e c => obtain ⟨arr', T', fr', g1, r⟩ := hok; exact ⟨arr', T', fr', by show (w.heap.setIfInBounds b (.map es' ck'))[b']? = _; rw [k2 _ hne]; exact g1, r⟩
      | map kvs => obtain ⟨es, ck, g1, r⟩ := hok; exact ⟨es, ck, by show (w.heap.setIfInBounds b (.map es' ck'))[b']? = _; rw [k2 _ hne]; exact g1, r⟩
      | siter s pos => show (w.heap.setIfInBounds b (.map es' ck'))[b']? = _; rw [k2 _ hne]; exact hok
      | miter m todo => obtain ⟨s1, s2, s3, g1⟩ := hok; exact ⟨s1, s2, s3, by show (w.heap.setIfInBounds b (.map es' ck'))[b']? = _; rw [k2 _ hne]; exact g1⟩
theorem put_ok {t kt : TypeId} {z K X : V} {k v : Value} {b : Nat} {kvs : List (V × V)} {r : Option (Nat × V)} (hm : Mem E M G w) (hb : hget G b = some (.map kvs)) (ht : tmap P t = some (kt, z)) (hs : simpleKey P kt K = true) (hK : Rep M K k) (hX : Rep M X v) (hf : mfind K kvs 0 = some r) :
    ∃ w', (Instr.mapUpdate t (.map (some b)) k v).run P w = .ok () w' ∧ Mem E M (hset G b (.map (mput kvs K X r))) w' := by
  obtain ⟨e, hu, hz⟩ := tmap_info ht
  obtain ⟨d, hd, hkey, hbits, hcmp⟩ := simpleKey_ok hs hK
  obtain ⟨hB, es, ck, h1, h2, h3, h4, h5⟩ := hm.obj b _ hb
  obtain ⟨l1, l2⟩ := obj_list h2 h3
  rcases findNow_ok hcmp l1 l2 hf with ⟨rfl, q2⟩ | ⟨j, y, v', e', hr0, q2, q3, q4, q5, q6⟩
  · refine ⟨_, ?_, hm.setMap hb (es' := es.push { key := k, val := v, born := ck }) (ck' := ck + 1) (by simp [mput, h2]) (fun i hi => ?_) (fun i j hi hj hij => ?_) (fun i hi => ?_)⟩
    · have hfk : (Instr.findKey kt k es.toList).run P w = .ok none w := MapKept.run_findKey hd q2
      simp only [Instr.mapUpdate, Sem.run_bind, run_underlying hu, Result.andThen_ok, MapKept.run_getObj_map h1, MapKept.run_checkKey hd hkey, hfk, MapKept.run_setObj_map _ h1]
    · simp only [mput] at hi ⊢
      by_cases hlt : i < kvs.length
      · rw [Array.getD_eq_getD_getElem?, Array.getElem?_push_lt (by omega), List.getElem_append_left hlt]
        have := h3 i hlt
        rw [Array.getD_eq_getD_getElem?, Array.getElem?_eq_getElem (by omega)] at this
        exact this
      · have e0 : i = kvs.length := by simp at hi; omega
        subst e0
        have hpush : (es.push { key := k, val := v, born := ck })[kvs.length]? = some { key := k, val := v, born := ck } := by rw [← h2]; exact Array.getElem?_push_size
        rw [Array.getD_eq_getD_getElem?, hpush]
        simp only [List.getElem_append_right (Nat.le_refl _), Nat.sub_self, List.getElem_cons_zero]
        exact ⟨hK, hX⟩
    · have key : ∀ i, i < (es.push { key := k, val := v, born := ck }).size → (i < es.size ∧ ((es.push { key := k, val := v, born := ck }).getD i default).born = (es.getD i default).born) ∨ (i = es.size ∧ ((es.push { key := k, val := v, born := ck }).getD i default).born = ck) := fun i hi => by
        rw [Array.size_push] at hi
        by_cases hlt : i < es.size
        · left
          refine ⟨hlt, ?_⟩
          rw [Array.getD_eq_getD_getElem?, Array.getElem?_push_lt hlt, Array.getD_eq_getD_getElem?, Array.getElem?_eq_getElem hlt]
        · right
          have e0 : i = es.size := by omega
          subst e0
          exact ⟨rfl, by rw [Array.getD_eq_getD_getElem?, Array.getElem?_push_size]; rfl⟩
      rcases key i hi with ⟨g1, g2⟩ | ⟨g1, g2⟩ <;> rcases key j hj with ⟨g3, g4⟩ | ⟨g3, g4⟩
      · exact h4 i j g1 g3 (by rw [← g2, ← g4]; exact hij)
      · have := h5 i g1; omega
      · have := h5 j g3; omega
      · omega
    · rw [Array.size_push] at hi
      by_cases hlt : i < es.size
      · rw [Array.getD_eq_getD_getElem?, Array.getElem?_push_lt hlt]
        have := h5 i hlt
        rw [Array.getD_eq_getD_getElem?, Array.getElem?_eq_getElem hlt] at this
        exact Nat.lt_succ_of_lt this
      · have e0 : i = es.size := by omega
        subst e0
        rw [Array.getD_eq_getD_getElem?, Array.getElem?_push_size]; exact Nat.lt_succ_self _
  · rw [Nat.zero_add] at hr0 q2
    subst hr0
    have hjs : j < es.size := by omega
    have hmod : ∀ i, i < es.size → (es.modify (j) fun e => { e with key := k, val := v }).getD i default = if i = j then { es.getD i default with key := k, val := v } else es.getD i default := fun i hi => by
      rw [Array.getD_eq_getD_getElem?, Array.getD_eq_getD_getElem?, Array.getElem?_modify]
      by_cases e0 : j = i
      · subst e0
        rw [if_pos rfl, if_pos rfl, Array.getElem?_eq_getElem hi]; rfl
      · rw [if_neg e0, if_neg (fun q => e0 q.symm)]
    have hborn : ∀ i, i < es.size → ((es.modify (j) fun e => { e with key := k, val := v }).getD i default).born = (es.getD i default).born := fun i hi => by
      rw [hmod i hi]; split <;> rfl
    refine ⟨_, ?_, hm.setMap hb (es' := es.modify (j) fun e => { e with key := k, val := v }) (ck' := ck) (by simp [mput, h2]) (fun i hi => ?_) (fun i j' hi hj hij => ?_) (fun i hi => ?_)⟩
    · have hfk : (Instr.findKey kt k es.toList).run P w = .ok (some (j, v')) w := MapKept.run_findKey hd q2
      have hold : ((es[j]?).map (·.key)).getD k = k := by
        have : es[j]? = some e' := by rw [← Array.getElem?_toList]; exact q4
        rw [this]; exact q5
      simp only [Instr.mapUpdate, Sem.run_bind, run_underlying hu, Result.andThen_ok, MapKept.run_getObj_map h1, MapKept.run_checkKey hd hkey, hfk, hold, Instr.keyThatStays, hbits, if_true, Sem.run_pure, MapKept.run_setObj_map _ h1]
    · simp only [mput, List.length_set] at hi ⊢
      rw [hmod i (by omega), List.getElem_set]
      by_cases e0 : j = i
      · subst e0
        rw [if_pos rfl, if_pos rfl]; exact ⟨hK, hX⟩
      · rw [if_neg e0, if_neg (fun q => e0 q.symm)]; exact h3 i hi
    · rw [Array.size_modify] at hi hj
      rw [hborn i hi, hborn j' hj] at hij
      exact h4 i j' hi hj hij
    · rw [Array.size_modify] at hi
      rw [hborn i hi]; exact h5 i hi
theorem Mem.new_map (hm : Mem E M G w) : hget G w.heap.size = none ∧ Mem E M ((w.heap.size, .map []) :: G) (w.alloc (.map #[] 0)) := by
  have hG : hget G w.heap.size = none := by
    cases hq : hget G w.heap.size with
    | none => rfl
    | some o => have := (hm.obj _ _ hq).2.lt; omega
  have ha := hm.alloc (.map #[] 0)
  refine ⟨hG, ha.below, ha.base, ha.pm, fun b o ho => ?_⟩
  rw [hget_cons] at ho
  by_cases e : w.heap.size = b
  · subst e
    rw [if_pos rfl] at ho
    cases ho
    exact ⟨hm.size, #[], 0, by show (w.heap.push _)[w.heap.size]? = _; simp, rfl, fun i h => absurd h (by simp), fun i j h => absurd h (by simp), fun i h => absurd h (by simp)⟩
  · rw [if_neg e] at ho
    exact ha.obj b o ho
end
end Go.Proofs.YtomjghlaoncpbaaV
