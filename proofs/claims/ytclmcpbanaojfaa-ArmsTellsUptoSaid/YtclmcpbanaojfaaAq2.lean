/- Part 2 of a proof laid in parts; each part's own comment says what it proves and under which conditions. -/
import Derived.Test.YtclmcpbanaojfaaAq1
import Derived.Orders
/-
  append to a slice of one's own whose elements are written yet.
-/
namespace Go.Proofs.YtclmcpbanaojfaaV
open Go.RowKit
set_option linter.unusedVariables false
set_option linter.unusedSimpArgs false

section
variable {P : Program} {E : Env} {M : PM} {G : Heap} {w : World}
/-- A new row: what is known of its first cells. -/
theorem Mem.new_row (hm : Mem E M G w) (arr : Array Value) (T : TypeId) {cs : List V} (hl : cs.length ≤ arr.size) (hr : ∀ i (h : i < cs.length), Rep M cs[i] (arr.getD i undef)) :
    hget G w.heap.size = none ∧ Mem E M ((w.heap.size, .vars cs) :: G) (w.drew.alloc (.cells arr T)) := by
  have hG : hget G w.heap.size = none := by
    cases hq : hget G w.heap.size with
    | none => rfl
    | some o => have := (hm.obj _ _ hq).2.lt; omega
  have ha := (hm.drew).alloc (.cells arr T)
  refine ⟨hG, ha.below, ha.base, ha.pm, fun b o ho => ?_⟩
  rw [hget_cons] at ho
  by_cases e : w.heap.size = b
  · subst e
    rw [if_pos rfl] at ho
    cases ho
    exact ⟨hm.size, arr, T, (0, 0), by show (w.heap.push _)[w.heap.size]? = _; simp, hl, hr, fun i _ _ h => by omega, fun o => hm.none_new (Nat.le_refl _) o⟩
  · rw [if_neg e] at ho
    exact ha.obj b o ho
/-- Cells of which nothing is known are written. -/
theorem Mem.fill (hm : Mem E M G w) {b : Nat} {cs : List V} (hb : hget G b = some (.vars cs)) {o : Nat} {news : List Value} (hfit : o + news.length ≤ cs.length) (hany : ∀ i, i < news.length → cs[o + i]? = some .any) :
    Mem E M G (w.setCells b o news) := by
  obtain ⟨hB, arr, T, fr, h2, h3, h4, h5, h6⟩ := hm.obj b _ hb
  obtain ⟨arr', k1, k2, k3, k4⟩ := setCells_at news o h2 (by omega)
  refine ⟨setCells_below news b o hm.below hB, hm.base, fun b' o' u hu => ?_, fun b' ob hob => ?_⟩
  · have hne : b' ≠ b := by intro e; subst e; rw [h6] at hu; cases hu
    rw [World.cell?_of_block (w := w) (a := ⟨b', o', none⟩) (setCells_ne news o hne)]; exact hm.pm _ _ _ hu
  · by_cases hbb : b' = b
    · subst hbb
      rw [hb] at hob
      cases hob
      refine ⟨hB, arr', T, fr, k1, by omega, fun i hi => ?_, h5, h6⟩
      by_cases hin : i < o ∨ o + news.length ≤ i
      · have := h4 i hi
        rw [Array.getD_eq_getD_getElem?] at this ⊢
        rw [k4 i hin]; exact this
      · have hi2 := hany (i - o) (by omega)
        rw [show o + (i - o) = i by omega] at hi2
        have e : cs[i] = .any := by rw [List.getElem?_eq_getElem hi] at hi2; exact Option.some.inj hi2
        rw [e]; exact .any _
    · refine ⟨(hm.obj _ _ hob).1, ?_⟩
      have hok := (hm.obj _ _ hob).2
      have hk : ∀ (k : Nat), k ≠ b → (w.setCells b o news).heap[k]? = w.heap[k]? := fun k hk => setCells_ne news o hk
      cases ob with
      | vars cs' => obtain ⟨arr', T', fr', g1, r⟩ := hok; exact ⟨arr', T', fr', by rw [hk _ hbb]; exact g1, r⟩
      | top e c => obtain ⟨arr', T', fr', g1, r⟩ := hok; exact ⟨arr', T', fr', by rw [hk _ hbb]; exact g1, r⟩
      | map kvs => obtain ⟨es, ck, g1, r⟩ := hok; exact ⟨es, ck, by rw [hk _ hbb]; exact g1, r⟩
      | siter s pos => show _ = _; rw [hk _ hbb]; exact hok
      | miter m => obtain ⟨s1, s2, s3, g1⟩ := hok; exact ⟨s1, s2, s3, by rw [hk _ hbb]; exact g1⟩
      | mapr kvs r todo cur => obtain ⟨es2, ck2, s1, s2, g1, g2, rr⟩ := hok; exact ⟨es2, ck2, s1, s2, by rw [hk _ hbb]; exact g1, by rw [hk _ (fun e => by subst e; rw [h2] at g2; cases g2)]; exact g2, rr⟩
/-- The first elements of a slice, in a row of their own that may be written yet. -/
theorem append_first {tx ty rt e : TypeId} {n k : Nat} {ys : List (List V)} {nl : Bool} {u y : Value} {Y : V} {z : V} (hm : Mem E M G w) (hr : Rep M (.sl [] nl .full) u) (hy : Rep M Y y) (ht : tslice P tx = some (e, n)) (hsrc : srcV P ty Y = some ys)
    (hk : tbytes P e = some k) (hz : tzero P e = some z) (hzp : plainV z = true) (hzl : (cellsV z).length = n) (hn : 0 < n) (hwy : wid n ys) (hsy : sca ys) (hsize : ys.length * k ≤ 140737488355328) (hsize2 : ys.length ≤ 9223372036854775807) (hne : ys ≠ []) :
    ∃ w' v b c, (Builtin.append_ #[tx, ty] rt #[u, y]).run P w = .ok v w' ∧ hget G b = none ∧ ys.length ≤ c ∧ Rep M (.ms b 0 ys.length c) v ∧ Mem E M ((b, .vars (ys.flatten ++ List.replicate ((c - ys.length) * n) .any)) :: G) w' := by
  obtain ⟨news, hnews, hs⟩ := src_ok hm hy hsrc hwy hsy hn
  obtain ⟨hu, hsz⟩ := tslice_info ht
  obtain ⟨i, hi, hin⟩ := tsz_info hsz
  obtain ⟨i2, zv, hi2, hzv, hzr⟩ := tzero_info hz
  have : i2 = i := by rw [hi] at hi2; exact (Option.some.inj hi2).symm
  subst this
  have hbytes : i2.bytes = k := by unfold tbytes at hk; rw [hi] at hk; simpa using hk
  have hnl : news.length = ys.length * n := by rw [← hnews.1, flatten_length hwy]
  have hypos : 0 < ys.length := List.length_pos_iff.2 hne
  have hzc := plainV_cells hzp (hzr M)
  have hzsz : zv.cells.size = n := by have := hzc.1; rw [hzl] at this; simpa using this.symm
  obtain ⟨a, rfl⟩ : ∃ a, u = .slice a 0 0 := by
    cases hr with
    | sl es nl t a len cap sz g h1 h2 h3 h4 h5 h6 h7 h8 h9 =>
      have h9 : len = cap := h9
      have h1 : len = 0 := h1
      exact ⟨a, by rw [← h9, h1]⟩
  have hfirst : (Builtin.firstCells i2.size 0 (.slice a 0 0)).run P w.drew = .ok ([] : List Value).toArray w.drew := by
    cases a with
    | none => exact run_firstCells_none w.drew _ _ _ _
    | some ad => exact run_firstCells_some w.drew i2.size 0 ad 0 0 [] (by simp) (fun j v hj => by simp at hj)
  have hrun := run_append_grow_src (P := P) w tx ty rt e i2 zv hu hi hzv a 0 0 [] hfirst y ys.length news (by rw [hin]; exact hs) (by omega) (by omega) (growslice_fits (by omega) (by rw [hbytes, Nat.zero_add]; exact hsize))
  have hcge := grownCap_ge w (0 + ys.length) 0 e
  rw [List.nil_append] at hrun
  have hasz : (news.toArray ++ Builtin.zeroCells zv.cells (grownCap w (0 + ys.length) 0 e - (0 + ys.length))).size = grownCap w (0 + ys.length) 0 e * n := by
    rw [Array.size_append, size_zeroCells, hzsz, List.size_toArray, hnl, ← Nat.add_mul]; congr 1; omega
  have hfl : ys.flatten.length = ys.length * n := flatten_length hwy
  obtain ⟨q1, q2⟩ := hm.new_row (news.toArray ++ Builtin.zeroCells zv.cells (grownCap w (0 + ys.length) 0 e - (0 + ys.length))) e (cs := ys.flatten ++ List.replicate ((grownCap w (0 + ys.length) 0 e - ys.length) * n) .any)
    (by rw [List.length_append, hfl, List.length_replicate, ← Nat.add_mul, hasz]; exact Nat.mul_le_mul_right _ (by omega)) (fun i hi => by
      by_cases hlt : i < ys.flatten.length
      · rw [List.getElem_append_left hlt]
        have := hnews.2 i hlt
        rw [List.getD_eq_getElem?_getD] at this
        rw [Array.getD_eq_getD_getElem?]
        have h2 : i < news.length := by rw [← hnews.1]; exact hlt
        rw [Array.getElem?_append_left (by simpa using h2), List.getElem?_toArray]
        exact this
      · rw [List.getElem_append_right (by omega), List.getElem_replicate]; exact .any _)
  refine ⟨_, _, _, _, hrun, q1, by omega, ?_, q2⟩
  have hcge' := hcge
  rw [Nat.zero_add] at hcge' ⊢
  exact .ms _ _ _ _ hcge'
/-- An append to a slice that is written yet: what it has had is told, what is appended is not. -/
theorem append_ms {tx ty rt e : TypeId} {n k b o len cap : Nat} {ys : List (List V)} {u y : Value} {Y : V} {z : V} {cs : List V} (hm : Mem E M G w) (hr : Rep M (.ms b o len cap) u) (hy : Rep M Y y) (ht : tslice P tx = some (e, n)) (hsrc : srcV P ty Y = some ys)
    (hk : tbytes P e = some k) (hz : tzero P e = some z) (hzp : plainV z = true) (hzl : (cellsV z).length = n) (hn : 0 < n) (hwy : wid n ys) (hsy : sca ys) (hsize : (len + ys.length) * k ≤ 140737488355328) (hsize2 : len + ys.length ≤ 9223372036854775807) (hne : ys ≠ [])
    (hb : hget G b = some (.vars cs)) (hcap : o + cap * n ≤ cs.length) (hany : ∀ i, len * n ≤ i → i < cap * n → cs[o + i]? = some .any) :
    ∃ w' v, (Builtin.append_ #[tx, ty] rt #[u, y]).run P w = .ok v w' ∧
      ((len + ys.length ≤ cap ∧ Rep M (.ms b o (len + ys.length) cap) v ∧ Mem E M G w') ∨
       (cap < len + ys.length ∧ ∃ b' c, hget G b' = none ∧ len + ys.length ≤ c ∧ Rep M (.ms b' 0 (len + ys.length) c) v ∧ Mem E M ((b', .vars ((cs.drop o).take (len * n) ++ List.replicate ((c - len) * n) .any)) :: G) w')) := by
  obtain ⟨news, hnews, hs⟩ := src_ok hm hy hsrc hwy hsy hn
  obtain ⟨hu, hsz⟩ := tslice_info ht
  obtain ⟨i, hi, hin⟩ := tsz_info hsz
  obtain ⟨i2, zv, hi2, hzv, hzr⟩ := tzero_info hz
  have : i2 = i := by rw [hi] at hi2; exact (Option.some.inj hi2).symm
  subst this
  have hbytes : i2.bytes = k := by unfold tbytes at hk; rw [hi] at hk; simpa using hk
  have hnl : news.length = ys.length * n := by rw [← hnews.1, flatten_length hwy]
  have hypos : 0 < ys.length := List.length_pos_iff.2 hne
  obtain ⟨rfl, hlc⟩ := hr.ms_inv
  by_cases hroom : len + ys.length ≤ cap
  · obtain ⟨hB, arr, T, fr, k1, k2, k3, k4, k5⟩ := hm.obj _ _ hb
    have hfit : len * n + news.length ≤ cap * n := by rw [hnl, ← Nat.add_mul]; exact Nat.mul_le_mul_right _ hroom
    have hcell : ∀ j, j < news.length → (w.cell? ⟨b, o + len * i2.size + j, none⟩).isSome = true := fun j hj => by
      rw [hin]
      unfold World.cell?
      simp only [k1, Option.isSome_none, Bool.false_eq_true, if_false]
      rw [Array.getElem?_eq_getElem (by omega)]; rfl
    have hfz : ∀ j, j < news.length → w.frozen? ⟨b, o + len * i2.size + j, none⟩ = false := fun j hj => by
      rw [hin]
      unfold World.frozen?
      simp only [k1]
      have := k4 (o + len * n + j) (by omega) (by omega)
      simp only [Bool.and_eq_false_iff, decide_eq_false_iff_not]
      by_cases q : fr.1 ≤ o + len * n + j
      · right; intro q2; exact this ⟨q, q2⟩
      · left; exact q
    have hrun := run_append_room_src (P := P) w tx ty rt e i2 hu hi b o len cap y ys.length news (by rw [hin]; exact hs) hroom hcell hfz
    rw [hin] at hrun
    refine ⟨_, _, hrun, .inl ⟨hroom, .ms _ _ _ _ hroom, hm.fill hb (by omega) (fun i hi => ?_)⟩⟩
    have := hany (len * n + i) (by omega) (by omega)
    rw [Nat.add_assoc]; exact this
  · have hzc := plainV_cells hzp (hzr M)
    have hzsz : zv.cells.size = n := by have := hzc.1; rw [hzl] at this; simpa using this.symm
    have hCR := hm.cellsRep_vars hb
    have hCR := (hCR.drop o).take (len * n)
    rw [Nat.zero_add] at hCR
    obtain ⟨olds, holds, hcells⟩ := hCR
    have hlencap : len * n ≤ cap * n := Nat.mul_le_mul_right _ hlc
    have holdl : olds.length = len * n := by rw [← holds.1, List.length_take, List.length_drop]; omega
    have hfirst : (Builtin.firstCells i2.size len (.slice (some ⟨b, o, none⟩) len cap)).run P w.drew = .ok olds.toArray w.drew :=
      run_firstCells_some w.drew i2.size len ⟨b, o, none⟩ len cap olds (by rw [holdl, hin]) (fun j v hj => by
        rw [Addr.add_lit]
        exact hcells j v hj)
    have hrun := run_append_grow_src (P := P) w tx ty rt e i2 zv hu hi hzv (some ⟨b, o, none⟩) len cap olds hfirst y ys.length news (by rw [hin]; exact hs) (by omega) (by omega) (growslice_fits (by omega) (by rw [hbytes]; exact hsize))
    have hcge := grownCap_ge w (len + ys.length) cap e
    have hvl : (olds ++ news).length = (len + ys.length) * n := by rw [List.length_append, holdl, hnl, Nat.add_mul]
    have hasz : ((olds ++ news).toArray ++ Builtin.zeroCells zv.cells (grownCap w (len + ys.length) cap e - (len + ys.length))).size = grownCap w (len + ys.length) cap e * n := by
      rw [Array.size_append, size_zeroCells, hzsz, List.size_toArray, hvl, ← Nat.add_mul]; congr 1; omega
    have hcl : ((cs.drop o).take (len * n) ++ List.replicate ((grownCap w (len + ys.length) cap e - len) * n) V.any).length = grownCap w (len + ys.length) cap e * n := by
      rw [List.length_append, holds.1, holdl, List.length_replicate, ← Nat.add_mul]; congr 1; omega
    obtain ⟨q1, q2⟩ := hm.new_row ((olds ++ news).toArray ++ Builtin.zeroCells zv.cells (grownCap w (len + ys.length) cap e - (len + ys.length))) e (cs := (cs.drop o).take (len * n) ++ List.replicate ((grownCap w (len + ys.length) cap e - len) * n) .any) (by rw [hcl, hasz]; exact Nat.le_refl _) (fun i hi => by
      by_cases hlt : i < ((cs.drop o).take (len * n)).length
      · rw [List.getElem_append_left hlt]
        have := holds.2 i hlt
        rw [List.getD_eq_getElem?_getD] at this
        rw [Array.getD_eq_getD_getElem?]
        have h2 : i < olds.length := by rw [← holds.1]; exact hlt
        rw [Array.getElem?_append_left (by simp; omega)]
        rw [List.getElem?_toArray, List.getElem?_append_left h2]
        exact this
      · rw [List.getElem_append_right (by omega), List.getElem_replicate]; exact .any _)
    exact ⟨_, _, hrun, .inr ⟨by omega, _, _, q1, hcge, .ms _ _ _ _ hcge, q2⟩⟩
def isIntT : TypeDesc → Bool | .int _ => true | _ => false
/-- So many zero elements behind an empty slice without room: a row of their own that may be written yet; what stands in it is not told. -/
theorem append_make {tx ty rt e : TypeId} {n k : Nat} {nl : Bool} {u : Value} {m : Int} {z : V} (hm : Mem E M G w) (hr : Rep M (.sl [] nl .full) u) (ht : tslice P tx = some (e, n)) (hty : kindIs P ty isIntT = true)
    (hk : tbytes P e = some k) (hz : tzero P e = some z) (hzp : plainV z = true) (hzl : (cellsV z).length = n) (hn : 0 < n) (hm0 : 0 < m) (hsize : m * k ≤ 140737488355328) (hsize2 : m ≤ 9223372036854775807) :
    ∃ w' v b c, (Builtin.append_ #[tx, ty] rt #[u, .int .i64 m]).run P w = .ok v w' ∧ hget G b = none ∧ m.toNat ≤ c ∧ Rep M (.ms b 0 m.toNat c) v ∧ Mem E M ((b, .vars (List.replicate (c * n) .any)) :: G) w' := by
  obtain ⟨hu, hsz⟩ := tslice_info ht
  obtain ⟨i, hi, hin⟩ := tsz_info hsz
  obtain ⟨i2, zv, hi2, hzv, hzr⟩ := tzero_info hz
  have : i2 = i := by rw [hi] at hi2; exact (Option.some.inj hi2).symm
  subst this
  have hbytes : i2.bytes = k := by unfold tbytes at hk; rw [hi] at hk; simpa using hk
  obtain ⟨mn, rfl⟩ := Int.eq_ofNat_of_zero_le (Int.le_of_lt hm0)
  have hzc := plainV_cells hzp (hzr M)
  have hzsz : zv.cells.size = n := by have := hzc.1; rw [hzl] at this; simpa using this.symm
  obtain ⟨d, hd, hdk⟩ := kindIs_some hty
  cases d <;> simp [isIntT] at hdk
  obtain ⟨a, rfl⟩ : ∃ a, u = .slice a 0 0 := by
    cases hr with
    | sl es nl t a len cap sz g h1 h2 h3 h4 h5 h6 h7 h8 h9 =>
      have h9 : len = cap := h9
      have h1 : len = 0 := h1
      exact ⟨a, by rw [← h9, h1]⟩
  have hfirst : (Builtin.firstCells i2.size 0 (.slice a 0 0)).run P w.drew = .ok ([] : List Value).toArray w.drew := by
    cases a with
    | none => exact run_firstCells_none w.drew _ _ _ _
    | some ad => exact run_firstCells_some w.drew i2.size 0 ad 0 0 [] (by simp) (fun j v hj => by simp at hj)
  have hsz2 : mn * k ≤ 140737488355328 := by
    have q : ((mn * k : Nat) : Int) ≤ 140737488355328 := by rw [Int.natCast_mul]; exact hsize
    omega
  have hfit := growslice_fits (need := mn) (old := 0) (bytes := i2.bytes) (by omega) (by rw [hbytes]; exact hsz2)
  have hwm : IntKind.i64.wrap ((mn : Nat) : Int) = ((mn : Nat) : Int) := by unfold IntKind.wrap; simp only [IntKind.bits, IntKind.signed]; simp; omega
  have hne0 : ¬ (mn * i2.size = 0) := by rw [hin]; exact Nat.mul_ne_zero (by omega) (by omega)
  have hrun : (Builtin.append_ #[tx, ty] rt #[.slice a 0 0, .int .i64 ((mn : Nat) : Int)]).run P w = .ok (.slice (some ⟨w.heap.size, 0, none⟩) mn (grownCap w mn 0 e))
      (w.drew.alloc (.cells (Builtin.zeroCells zv.cells mn ++ Builtin.zeroCells zv.cells (grownCap w mn 0 e - mn)) e)) := by
    have t0 : ¬ (((mn : Nat) : Int) < 0) := by omega
    have t1 : ¬ (281474976710656 < ((mn : Nat) : Int) * ((i2.bytes : Nat) : Int)) := by rw [hbytes, ← Int.natCast_mul]; omega
    have t2 : ¬ (mn = 0) := by omega
    have t3 : ¬ (9223372036854775807 < ((mn : Nat) : Int)) := by omega
    have t4 : ¬ (281474976710656 < Builtin.nextslicecap mn 0 * i2.bytes) := by omega
    simp [Builtin.append_, run_underlying hu, run_underlying hd, sizeOf, typeInfo, zeroValue, hi2, hzv, asInt, asIntOf, hwm, t0, t1, t2, t3, t4, hne0, Question.forced, hfirst, newRow, grownCap]
  have hcge := grownCap_ge w mn 0 e
  have hasz : (Builtin.zeroCells zv.cells mn ++ Builtin.zeroCells zv.cells (grownCap w mn 0 e - mn)).size = grownCap w mn 0 e * n := by
    rw [Array.size_append, size_zeroCells, size_zeroCells, hzsz, ← Nat.add_mul]; congr 1; omega
  obtain ⟨q1, q2⟩ := hm.new_row (Builtin.zeroCells zv.cells mn ++ Builtin.zeroCells zv.cells (grownCap w mn 0 e - mn)) e (cs := List.replicate (grownCap w mn 0 e * n) .any)
    (by rw [List.length_replicate, hasz]; exact Nat.le_refl _) (fun i hi => by rw [List.getElem_replicate]; exact .any _)
  exact ⟨_, _, _, _, hrun, q1, hcge, .ms _ _ _ _ hcge, q2⟩
end
end Go.Proofs.YtclmcpbanaojfaaV

/-
  Operations that write, or make, or call: new variables, stores, calls.
-/
namespace Go.Proofs.YtclmcpbanaojfaaV
open Go.RowKit
set_option linter.unusedVariables false
set_option linter.unusedSimpArgs false

section
variable {P : Program} {E : Env} {M : PM} {G : Heap} {w : World} {f : FF} {a : Act} {N : Nat}
theorem Mem.new_vars (hm : Mem E M G w) {x : V} {v : Value} (hp : plainV x = true) (hr : Rep M x v) (T : TypeId) : hget G w.heap.size = none ∧ Mem E M ((w.heap.size, .vars (cellsV x)) :: G) (w.alloc (.cells v.cells T)) := by
  have hG : hget G w.heap.size = none := by
    cases hq : hget G w.heap.size with
    | none => rfl
    | some o => have := (hm.obj _ _ hq).2.lt; omega
  have hc := plainV_cells hp hr
  have ha := hm.alloc (.cells v.cells T)
  refine ⟨hG, ha.below, ha.base, ha.pm, fun b o ho => ?_⟩
  rw [hget_cons] at ho
  by_cases e : w.heap.size = b
  · subst e
    rw [if_pos rfl] at ho
    cases ho
    refine ⟨hm.size, v.cells, T, (0, 0), by show (w.heap.push _)[w.heap.size]? = _; simp, by have := hc.1; simp at this; omega, fun i hi => ?_, fun i _ _ h => by omega, fun o => hm.none_new (Nat.le_refl _) o⟩
    have := hc.2 i hi
    rw [List.getD_eq_getElem?_getD] at this
    rw [Array.getD_eq_getD_getElem?]; simpa using this
  · rw [if_neg e] at ho
    exact ha.obj b o ho

/-- A store of one cell into a variable of the call's own. -/
theorem Mem.store1 (hm : Mem E M G w) {b : Nat} {cs : List V} (hb : hget G b = some (.vars cs)) {o : Nat} (ho : o < cs.length) {x : V} {v : Value} (hr : Rep M x v) (h1 : v.oneCell' = true) :
    (store ⟨b, o, none⟩ v).run P w = .ok () (w.setCell ⟨b, o, none⟩ v) ∧ Mem E M (hset G b (.vars (cs.set o x))) (w.setCell ⟨b, o, none⟩ v) := by
  obtain ⟨hB, arr, T, fr, h2, h3, h4, h5, h6⟩ := hm.obj b _ hb
  have hcell : w.cell? ⟨b, o, none⟩ = some (arr[o]'(by omega)) := by
    unfold World.cell?
    simp only [h2, Option.isSome_none, Bool.false_eq_true, if_false]
    exact Array.getElem?_eq_getElem (by omega)
  have hfz : w.frozen? ⟨b, o, none⟩ = false := by
    unfold World.frozen?
    simp only [h2]
    have := h5 o (Nat.zero_le _) ho
    simp only [Bool.and_eq_false_iff, decide_eq_false_iff_not]
    by_cases q : fr.1 ≤ o
    · right; intro q2; exact this ⟨q, q2⟩
    · left; exact q
  refine ⟨by rw [run_store P w _ v _ h1]; simp [hcell, hfz], ?_⟩
  have hbel : Below E.B E.w0 (w.setCell ⟨b, o, none⟩ v) := hm.below.setCell (p := ⟨b, o, none⟩) hB v
  refine ⟨hbel, hm.base, fun b' o' u hu => ?_, fun b' ob hob => ?_⟩
  · have hne : b' ≠ b := by intro e; subst e; rw [h6] at hu; cases hu
    rw [World.cell?_setCell_other _ _ _ _ (by intro e; injection e with e1 _ _; exact hne e1.symm)]
    exact hm.pm _ _ _ hu
  · rcases hget_hset hob with ⟨rfl, rfl⟩ | ⟨hne, hob⟩
    · refine ⟨hB, arr.setIfInBounds o v, T, fr, heap_setCell_vars w h2 o v, by simpa using h3, fun i hi => ?_, by simpa using h5, h6⟩
      have hi' : i < cs.length := by simpa using hi
      rw [Array.getD_eq_getD_getElem?, Array.getElem?_setIfInBounds, List.getElem_set]
      by_cases e : o = i
      · subst e
        rw [if_pos rfl, if_pos rfl, if_pos (by omega)]; exact hr
      · rw [if_neg e, if_neg e]
        have := h4 i hi'
        rw [Array.getD_eq_getD_getElem?] at this; exact this
    · refine ⟨(hm.obj _ _ hob).1, ?_⟩
      have hk : ∀ (k : Nat), k ≠ b → (w.setCell ⟨b, o, none⟩ v).heap[k]? = w.heap[k]? := fun k hk => heap_setCell_ne w hk o v
      have hok := (hm.obj _ _ hob).2
      cases ob with
      | vars cs' => obtain ⟨arr', T', fr', g1, r⟩ := hok; exact ⟨arr', T', fr', by rw [hk _ hne]; exact g1, r⟩
      | top e c => obtain ⟨arr', T', fr', g1, r⟩ := hok; exact ⟨arr', T', fr', by rw [hk _ hne]; exact g1, r⟩
      | map kvs => obtain ⟨es, ck, g1, r⟩ := hok; exact ⟨es, ck, by rw [hk _ hne]; exact g1, r⟩
      | siter s pos => show _ = _; rw [hk _ hne]; exact hok
      | miter m => obtain ⟨s1, s2, s3, g1⟩ := hok; exact ⟨s1, s2, s3, by rw [hk _ hne]; exact g1⟩
      | mapr kvs r todo cur => obtain ⟨es2, ck2, s1, s2, g1, g2, rr⟩ := hok; exact ⟨es2, ck2, s1, s2, by rw [hk _ hne]; exact g1, by rw [hk _ (fun e => by subst e; rw [h2] at g2; cases g2)]; exact g2, rr⟩
theorem hset_hset (G : Heap) (b : Nat) (x y : AObj) : hset (hset G b x) b y = hset G b y := by
  induction G with
  | nil => rfl
  | cons p G ih =>
    obtain ⟨k, u⟩ := p
    simp only [hset]
    by_cases e : k = b
    · subst e; simp [hset]
    · simp [hset, e, ih]
theorem hget_hset_self {G : Heap} {b : Nat} {x y : AObj} (h : hget G b = some x) : hget (hset G b y) b = some y := by
  induction G with
  | nil => simp [hget] at h
  | cons p G ih =>
    obtain ⟨k, u⟩ := p
    simp only [hset]
    by_cases e : k = b
    · subst e; simp [hget]
    · rw [if_neg e]; simp only [hget] at h ⊢; rw [if_neg e] at h ⊢; exact ih h
theorem hset_same {G : Heap} {b : Nat} {x : AObj} (h : hget G b = some x) : hset G b x = G := by
  induction G with
  | nil => rfl
  | cons p G ih =>
    obtain ⟨k, u⟩ := p
    simp only [hset, hget] at h ⊢
    by_cases e : k = b
    · rw [if_pos e] at h ⊢; cases h; rfl
    · rw [if_neg e] at h ⊢; rw [ih h]
/-- No cell of a value is a struct. -/
def oneCells (vs : List Value) : Prop := ∀ v ∈ vs, v.oneCell' = true
theorem Mem.storeCells : ∀ {xs : List V} {us : List Value} (hx : RepL M xs us) (hs : xs.all scalarV = true) {G : Heap} {w : World} (hm : Mem E M G w) {b : Nat} {cs : List V} (hb : hget G b = some (.vars cs)) (o k : Nat) (ho : o + k + xs.length ≤ cs.length),
    ∃ w', (Go.storeCells ⟨b, o, none⟩ us k).run P w = .ok () w' ∧ Mem E M (hset G b (.vars (setMany cs (o + k) xs))) w'
  | [], us, hx, hs, G, w, hm, b, cs, hb, o, k, ho => by
    have : us = [] := List.eq_nil_of_length_eq_zero hx.1.symm
    subst this
    exact ⟨w, rfl, by simp only [setMany]; rw [hset_same hb]; exact hm⟩
  | x :: xs, [], hx, hs, G, w, hm, b, cs, hb, o, k, ho => absurd hx.1 (by simp)
  | x :: xs, u :: us, hx, hs, G, w, hm, b, cs, hb, o, k, ho => by
    simp only [List.all_cons, Bool.and_eq_true] at hs
    simp only [List.length_cons] at ho
    obtain ⟨h1, h2⟩ := hm.store1 (P := P) hb (o := o + k) (by omega) hx.head (scalar_one hs.1 hx.head)
    obtain ⟨w', h3, h4⟩ := Mem.storeCells hx.tail hs.2 h2 (hget_hset_self hb) o (k + 1) (by simp; omega)
    refine ⟨w', ?_, ?_⟩
    · simp only [Go.storeCells, Sem.run_bind, Addr.add_lit, h1, Result.andThen_ok, h3]
    · rw [hset_hset] at h4
      exact h4
theorem Mem.storeVar (hm : Mem E M G w) {b o n : Nat} {cs : List V} (hb : hget G b = some (.vars cs)) {t : TypeId} (ht : tsz P t = some n) {x : V} {v : Value} (hp : plainV x = true) (hr : Rep M x v) (hl : (cellsV x).length = n) (hs : (cellsV x).all scalarV = true) (ho : o + n ≤ cs.length) :
    ∃ w', (Instr.storeAt t (.pointer (some ⟨b, o, none⟩)) v).run P w = .ok () w' ∧ Mem E M (hset G b (.vars (setMany cs o (cellsV x)))) w' := by
  have hc := plainV_cells hp hr
  obtain ⟨w', h1, h2⟩ := Mem.storeCells (P := P) hc hs hm hb o 0 (by omega)
  refine ⟨w', ?_, h2⟩
  have hsz : v.cells.size = n := by have := hc.1; rw [hl] at this; simpa using this.symm
  simp only [Instr.storeAt, Instr.sureAddr, Sem.run_bind, Sem.run_pure, Result.andThen_ok, Go.storeVar, run_sizeOf ht, hsz, ne_eq, not_true_eq_false, if_false]
  exact h1
end

/-! ### the operations that do something -/
abbrev Kv := V → Heap → Prop
abbrev Kf := Frame → Heap → Prop
/-- A call by a value: which function, and what it holds. -/
def callee (f : FF) : Operand → Option (FuncId × List V × List V)
  | .func g => some (g, [], [])
  | o => match ev f o with
    | some (.func (.func g) xs ys) => some (g, xs, ys)
    | _ => none
/-- What an append asks. -/
def appC (n k : Nat) (z : V) (es ys : List (List V)) : Prop :=
  plainV z = true ∧ (cellsV z).length = n ∧ 0 < n ∧ wid n es ∧ wid n ys ∧ sca ys ∧ (es.length + ys.length) * k ≤ 140737488355328 ∧ es.length + ys.length ≤ 9223372036854775807
/-- What an append answers: nothing is appended; or the room behind is the call's own; or there is none. -/
def appK (G : Heap) (n : Nat) (es ys : List (List V)) (nl : Bool) (t : Tag) (K : Kv) : Prop :=
  (ys = [] → K (.sl es nl t) G) ∧ (ys ≠ [] → match t with
    | .no => False
    | .full => ∀ b e c, hget G b = none → K (.sl (es ++ ys) false (.top n b e c)) ((b, .top e c) :: G)
    | .top s b0 e0 c0 => (s = n ∧ hget G b0 = some (.top e0 c0)) ∧ ∀ b e c, (hget G b = none ∨ b = b0) → K (.sl (es ++ ys) false (.top n b e c)) ((b, .top e c) :: hdel G b0))
/-- The same of an empty slice without room, into a row that may be written yet. -/
def appN (G : Heap) (n : Nat) (es ys : List (List V)) (t : Tag) (K : Kv) : Prop :=
  es = [] ∧ t = .full ∧ ys ≠ [] ∧ ∀ b c, hget G b = none → ys.length ≤ c → K (.ms b 0 ys.length c) ((b, .vars (ys.flatten ++ List.replicate ((c - ys.length) * n) .any)) :: G)
/-- And to a slice that is written yet. -/
def appM (G : Heap) (n k : Nat) (z : V) (b o len cap : Nat) (ys : List (List V)) (K : Kv) : Prop :=
  (plainV z = true ∧ (cellsV z).length = n ∧ 0 < n ∧ wid n ys ∧ sca ys ∧ (len + ys.length) * k ≤ 140737488355328 ∧ len + ys.length ≤ 9223372036854775807 ∧ ys ≠ []) ∧
  ∃ cs, hget G b = some (.vars cs) ∧ o + cap * n ≤ cs.length ∧ (∀ i, len * n ≤ i → i < cap * n → cs[o + i]? = some .any) ∧ (len + ys.length ≤ cap → K (.ms b o (len + ys.length) cap) G) ∧
    (cap < len + ys.length → ∀ b' c, hget G b' = none → len + ys.length ≤ c → K (.ms b' 0 (len + ys.length) c) ((b', .vars ((cs.drop o).take (len * n) ++ List.replicate ((c - len) * n) .any)) :: G))
/-- And so many zero elements. -/
def appZ (P : Program) (G : Heap) (n k : Nat) (z : V) (ty : TypeId) (Y : V) (es : List (List V)) (t : Tag) (K : Kv) : Prop :=
  match Y with
  | .int .i64 m => (kindIs P ty isIntT = true ∧ es = [] ∧ t = .full ∧ 0 < m ∧ m * k ≤ 140737488355328 ∧ m ≤ 9223372036854775807 ∧ plainV z = true ∧ (cellsV z).length = n ∧ 0 < n) ∧
    ∀ b c, hget G b = none → m.toNat ≤ c → K (.ms b 0 m.toNat c) ((b, .vars (List.replicate (c * n) .any)) :: G)
  | _ => False
def fx (P : Program) (f : FF) (G : Heap) (op : Op) (K : Kv) : Prop :=
  match op with
  | .alloc t => match tzero P t with
    | some z => plainV z = true ∧ ∀ b, hget G b = none → K (.ptr b 0) ((b, .vars (cellsV z)) :: G)
    | none => False
  | .box t x => match ev f x with
    | some X => plainV X = true ∧ ∀ b, hget G b = none → K (.ptr b 0) ((b, .vars (cellsV X)) :: G)
    | none => False
  | .store t p x => match ev f p, ev f x, tsz P t with
    | some (.ptr b z), some X, some n => match hget G b with
      | some (.vars cs) => (plainV X = true ∧ (cellsV X).all scalarV = true ∧ (cellsV X).length = n ∧ z + n ≤ cs.length) ∧ K .any (hset G b (.vars (setMany cs z (cellsV X))))
      | _ => False
    | _, _, _ => False
  | .call { callee := .value c, args := as_, argTypes := _ } => match callee f c, evL f as_.toList with
    | some (g, xs, ys), some zs => ACall P g (xs ++ zs ++ ys) K G
    | _, _ => False
  | .call { callee := .builtin .append, args := as_, argTypes := ts } => match as_.toList, ts.toList with
    | [x, y], [tx, ty] => match ev f x, ev f y, tslice P tx with
      | some (.sl es nl t), some Y, some (e, n) => match srcV P ty Y, tbytes P e, tzero P e with
        | some ys, some k, some z => appC n k z es ys ∧ (appK G n es ys nl t K ∨ appN G n es ys t K)
        | none, some k, some z => appZ P G n k z ty Y es t K
        | _, _, _ => False
      | some (.ms b o len cap), some Y, some (e, n) => match srcV P ty Y, tbytes P e, tzero P e with
        | some ys, some k, some z => appM G n k z b o len cap ys K
        | _, _, _ => False
      | _, _, _ => False
    | _, _ => False
  | .makeSlice t l c => match ev f l, ev f c, tslice P t with
    | some (.int _ l), some (.int _ c), some (e, n) => match tbytes P e, tzero P e with
      | some k, some z => (plainV z = true ∧ (cellsV z).length = n ∧ 0 ≤ l ∧ l ≤ c ∧ c * k ≤ 281474976710656 ∧ c ≤ 9223372036854775807) ∧ ∀ b, hget G b = none → K (.ms b 0 l.toNat c.toNat) ((b, .vars (List.replicate c.toNat (cellsV z)).flatten) :: G)
      | _, _ => False
    | _, _, _ => False
  | .makeMap t none => ∀ b, hget G b = none → K (.map b) ((b, .map []) :: G)
  | .mapUpdate t m k x => match ev f m, ev f k, ev f x, tmap P t with
    | some (.map b), some KK, some X, some (kt, _) => match hget G b with
      | some (.map kvs) => match mfind KK kvs 0 with
        | some r => simpleKey P kt KK = true ∧ K .any (hset G b (.map (mput kvs KK X r)))
        | none => False
      | some (.mapr kvs r todo cur) => match mfind KK kvs 0 with
        | some (some (j, _)) => simpleKey P kt KK = true ∧ K .any (hset G b (.mapr (kvs.set j (KK, X)) r todo cur))
        | _ => False
      | _ => False
    | _, _, _, _ => False
  | .insert t m k x => match ev f m, ev f k, ev f x, tmap P t with
    | some (.map b), some KK, some X, some (kt, _) => match hget G b with
      | some (.map kvs) => match mfind KK kvs 0 with
        | some r => simpleKey P kt KK = true ∧ K .any (hset G b (.map (mput kvs KK X r)))
        | none => False
      | some (.mapr kvs r todo cur) => match mfind KK kvs 0 with
        | some (some (j, _)) => simpleKey P kt KK = true ∧ K .any (hset G b (.mapr (kvs.set j (KK, X)) r todo cur))
        | _ => False
      | _ => False
    | _, _, _, _ => False
  | .range t x => match ev f x with
    | some (.str s) => isStr P t = true ∧ ∀ b, hget G b = none → K (.ptr b 0) ((b, .siter s 0) :: G)
    | some (.map m) => match hget G m with
      | some (.map kvs) => kindIs P t isMapT = true ∧ ∀ r, hget G r = none → K (.ptr r 0) ((r, .miter m) :: hset G m (.mapr kvs r (List.range kvs.length) none))
      | _ => False
    | _ => False
  | .next x str => match ev f x with
    | some (.ptr r o) => o = 0 ∧ match hget G r with
      | some (.siter s pos) => str = true ∧ (∀ h : pos < s.length, s[pos].toNat < 128 ∧ K (.tup [.bool true, .int .i64 pos, .int .i32 (s[pos].toNat : Nat)]) (hset G r (.siter s (pos + 1)))) ∧ (¬ pos < s.length → K (.tup [.bool false]) G)
      | some (.miter m) => match hget G m with
        | some (.mapr kvs r' todo _) => str = false ∧ r' = r ∧ (todo = [] → K (.tup [.bool false]) G) ∧ ∀ i, i ∈ todo → ∀ h : i < kvs.length, K (.tup [.bool true, (kvs[i]).1, (kvs[i]).2]) (hset G m (.mapr kvs r (todo.erase i) (some i)))
        | _ => False
      | _ => False
    | _ => False
  | _ => False
def stepV (P : Program) (f : FF) (G : Heap) (op : Op) (K : Kv) : Prop :=
  match qv P f G op with
  | some (C, x) => C ∧ K x G
  | none => fx P f G op K
def dstOk (N : Nat) (o : Oper) : Bool := match o.dst with | some d => decide (d < N) | none => true

section
variable {P : Program} {E : Env} {M : PM} {G : Heap} {w : World} {f : FF} {a : Act} {N : Nat}
theorem fx_mono {op : Op} {K K' : Kv} (hk : ∀ x G, K x G → K' x G) (h : fx P f G op K) : fx P f G op K' := by
  unfold fx at h ⊢
  split at h
  · split at h
    · exact ⟨h.1, fun b hb => hk _ _ (h.2 b hb)⟩
    · exact h
  · split at h
    · exact ⟨h.1, fun b hb => hk _ _ (h.2 b hb)⟩
    · exact h
  · split at h
    · split at h
      · exact ⟨h.1, hk _ _ h.2⟩
      · exact h
    · exact h
  · split at h
    · exact h.mono hk
    · exact h
  · split at h
    · split at h
      · split at h
        · refine ⟨h.1, h.2.imp (fun h => ⟨fun q => hk _ _ (h.1 q), fun q => ?_⟩) (fun h => ⟨h.1, h.2.1, h.2.2.1, fun b c hb hc => hk _ _ (h.2.2.2 b c hb hc)⟩)⟩
          have h2 := h.2 q
          split at h2
          · exact h2
          · exact fun b e c hb => hk _ _ (h2 b e c hb)
          · exact ⟨h2.1, fun b e c hb => hk _ _ (h2.2 b e c hb)⟩
        · unfold appZ at h ⊢
          split at h
          · exact ⟨h.1, fun b c hb hc => hk _ _ (h.2 b c hb hc)⟩
          · exact h
        · exact h
      · split at h
        · obtain ⟨h1, cs, h2, h3, h4, h5, h6⟩ := h
          exact ⟨h1, cs, h2, h3, h4, fun q => hk _ _ (h5 q), fun q b' c hb hc => hk _ _ (h6 q b' c hb hc)⟩
        · exact h
      · exact h
    · exact h
  · split at h
    · split at h
      · exact ⟨h.1, fun b hb => hk _ _ (h.2 b hb)⟩
      · exact h
    · exact h
  · exact fun b hb => hk _ _ (h b hb)
  · split at h
    · split at h
      · split at h
        · exact ⟨h.1, hk _ _ h.2⟩
        · exact h
      · split at h
        · exact ⟨h.1, hk _ _ h.2⟩
        · exact h
      · exact h
    · exact h
  · split at h
    · split at h
      · split at h
        · exact ⟨h.1, hk _ _ h.2⟩
        · exact h
      · split at h
        · exact ⟨h.1, hk _ _ h.2⟩
        · exact h
      · exact h
    · exact h
  · split at h
    · exact ⟨h.1, fun b hb => hk _ _ (h.2 b hb)⟩
    · split at h
      · exact ⟨h.1, fun b hb => hk _ _ (h.2 b hb)⟩
      · exact h
    · exact h
  · split at h
    · refine ⟨h.1, ?_⟩
      replace h := h.2
      split at h
      · exact ⟨h.1, fun q => ⟨(h.2.1 q).1, hk _ _ (h.2.1 q).2⟩, fun q => hk _ _ (h.2.2 q)⟩
      · split at h
        · exact ⟨h.1, h.2.1, fun q => hk _ _ (h.2.2.1 q), fun i hi hh => hk _ _ (h.2.2.2 i hi hh)⟩
        · exact h
      · exact h
    · exact h
  · exact h
theorem stepV_mono {op : Op} {K K' : Kv} (hk : ∀ x G, K x G → K' x G) (h : stepV P f G op K) : stepV P f G op K' := by
  unfold stepV at h ⊢
  split at h
  · exact ⟨h.1, hk _ _ h.2⟩
  · exact fx_mono hk h
/-- What an operation's continuation is owed. -/
def Owed (P : Program) (E : Env) (M : PM) (N : Nat) (f : FF) (d : Option Tmp) (K : Kv) (next : Act → World → Prop) : Prop :=
  ∀ M' x G' (a' : Act) w', M.le M' → Mem E M' G' w' → RepG M' (upd f d x) a'.tmps → a'.tmps.size = N → a'.defers = [] → K x G' → next a' w'
theorem put_frame (hf : RepG M f a.tmps) (hn : a.tmps.size = N) (hd : a.defers = []) {o : Oper} (ho : dstOk N o = true) {x : V} {v : Value} (hr : Rep M x v) :
    RepG M (upd f o.dst x) (a.put o.dst v).tmps ∧ (a.put o.dst v).tmps.size = N ∧ (a.put o.dst v).defers = [] := by
  unfold dstOk at ho
  cases hdst : o.dst with
  | none => exact ⟨hf, hn, hd⟩
  | some d =>
    rw [hdst] at ho
    have ho : d < N := of_decide_eq_true ho
    exact ⟨hf.put (by rw [hn]; exact ho) hr, by simpa [Act.put] using hn, hd⟩
theorem callee_ok (hf : RepG M f a.tmps) {c : Operand} {g : FuncId} {xs ys : List V} (h : callee f c = some (g, xs, ys)) : ∃ us vs : Array Value, a.eval c = .func (.func g) us vs ∧ RepL M xs us.toList ∧ RepL M ys vs.toList := by
  unfold callee at h
  split at h
  · cases h; exact ⟨#[], #[], rfl, RepL.nil, RepL.nil⟩
  · split at h
    · rename_i hx
      cases h
      obtain ⟨us, vs, h1, h2, h3⟩ := func_inv (ev_rep hf hx)
      exact ⟨us, vs, h1, h2, h3⟩
    · cases h
theorem fx_ok {o : Oper} {K : Kv} {fe : FF} (h : fx P fe G o.op K) (hm : Mem E M G w) (hfe : RepG M fe a.tmps) (hf : RepG M f a.tmps) (hn : a.tmps.size = N) (hd : a.defers = []) (ho : dstOk N o = true) {next : Act → World → Prop} {Q' : Exit → Act → World → Prop} (hnext : Owed P E M N f o.dst K next) :
    o.upon P a next Q' ((execOp a.eval o).run P w) := by
  unfold fx at h
  split at h
  · rename_i t hop
    split at h
    · rename_i z hz
      obtain ⟨hp, h⟩ := h
      obtain ⟨zv, hzv, hzr⟩ := run_zeroValue hz w
      obtain ⟨hg, hmem⟩ := hm.new_vars hp (hzr M) t
      have hrun : (execOp a.eval o).run P w = .ok (.value (.pointer (some ⟨w.heap.size, 0, none⟩))) (w.alloc (.cells zv.cells t)) := by
        simp only [execOp, hop, Instr.alloc, Sem.run_bind, hzv, Result.andThen_ok, newVar, newRow, run_newObj, Sem.run_pure]
        rfl
      rw [hrun, Oper.upon_value]
      obtain ⟨q1, q2, q3⟩ := put_frame hf hn hd ho (Rep.ptr (M := M) w.heap.size 0)
      exact hnext M _ _ _ _ M.le_refl hmem q1 q2 q3 (h _ hg)
    · exact h.elim
  · rename_i t x hop
    split at h
    · rename_i X hx
      obtain ⟨hp, h⟩ := h
      have hr := ev_rep hfe hx
      obtain ⟨hg, hmem⟩ := hm.new_vars hp hr t
      have hrun : (execOp a.eval o).run P w = .ok (.value (.pointer (some ⟨w.heap.size, 0, none⟩))) (w.alloc (.cells (a.eval x).cells t)) := by
        simp only [execOp, hop, Instr.box, Sem.run_bind, newVar, newRow, run_newObj, Result.andThen_ok, Sem.run_pure]
        rfl
      rw [hrun, Oper.upon_value]
      obtain ⟨q1, q2, q3⟩ := put_frame hf hn hd ho (Rep.ptr (M := M) w.heap.size 0)
      exact hnext M _ _ _ _ M.le_refl hmem q1 q2 q3 (h _ hg)
    · exact h.elim
  · rename_i t p x hop
    split at h
    · rename_i b z X n hp hx ht
      split at h
      · rename_i cs hb
        obtain ⟨⟨h1, h2, h3, h4⟩, h⟩ := h
        have hr := ev_rep hfe hx
        have he := (ev_rep hfe hp).ptr_inv
        obtain ⟨w', g1, g2⟩ := hm.storeVar hb ht h1 hr h3 h2 h4
        have hrun : (execOp a.eval o).run P w = .ok .skip w' := by
          simp only [execOp, hop, he, Sem.run_bind, g1, Result.andThen_ok, Sem.run_pure]
        rw [hrun, Oper.upon_skip]
        obtain ⟨q1, q2, q3⟩ := put_frame hf hn hd ho (Rep.any (M := M) undef)
        exact hnext M _ _ _ _ M.le_refl g2 q1 q2 q3 h
      · exact h.elim
    · exact h.elim
  · rename_i c as_ ts hop
    split at h
    · rename_i g xs ys zs hc has
      obtain ⟨us, vs, he, r1, r2⟩ := callee_ok hfe hc
      have hrun : (execOp a.eval o).run P w = (callFunc g (us ++ as_.map a.eval ++ vs)).run P w := by
        simp only [execOp, hop, resolve, he, Deferred.ofValue, Sem.run_bind, Sem.run_pure, Result.andThen_ok, invoke]
      rw [hrun]
      have hl : RepL M (xs ++ zs ++ ys) (us ++ as_.map a.eval ++ vs).toList := by
        have := (r1.append (by simpa using evL_rep hfe has)).append r2
        simpa using this
      refine h E M w _ hm hl o a next Q' fun v w' hv => ?_
      obtain ⟨M', G', x, k1, k2, k3, k4⟩ := hv
      obtain ⟨q1, q2, q3⟩ := put_frame (hf.mono k1) hn hd ho k3
      exact hnext M' _ _ _ _ k1 k2 q1 q2 q3 k4
    · exact h.elim
  · rename_i as_ ts hop
    split at h
    · rename_i x y tx ty has hts
      have has' : as_ = #[x, y] := by apply Array.ext'; simpa using has
      have hts' : ts = #[tx, ty] := by apply Array.ext'; simpa using hts
      subst has'; subst hts'
      split at h
      · rename_i es nl t Y e n hx hy ht
        split at h
        · rename_i ys k z hsrc hk hz
          obtain ⟨⟨c1, c2, c3, c4, c5, c6, c7, c8⟩, hKK⟩ := h
          rcases hKK with ⟨hK1, hK2⟩ | ⟨d1, d2, d3, d4⟩
          case inr =>
            subst d1; subst d2
            obtain ⟨w', v, b, c, r1, r2, r3, r4, r5⟩ := append_first (rt := o.type) hm (ev_rep hfe hx) (ev_rep hfe hy) ht hsrc hk hz c1 c2 c3 c5 c6 (by simpa using c7) (by simpa using c8) d3
            have hrun : (execOp a.eval o).run P w = .ok (.value v) w' := by
              simp only [execOp, hop, resolve, invoke, builtin, Sem.run_bind, Sem.run_pure, Result.andThen_ok, List.map_toArray, List.map_cons, List.map_nil, r1]
            rw [hrun, Oper.upon_value]
            obtain ⟨q1, q2, q3⟩ := put_frame hf hn hd ho r4
            exact hnext _ _ _ _ _ M.le_refl r5 q1 q2 q3 (d4 _ _ r2 r3)
          obtain ⟨M', w', v, r1, r2, r3⟩ := append_ok (rt := o.type) hm (ev_rep hfe hx) (ev_rep hfe hy) ht hsrc hk hz c1 c2 c3 c4 c5 c6 c7 c8 (fun q => by
            have := hK2 q
            split at this
            · exact this.elim
            · trivial
            · exact this.1)
          have hrun : (execOp a.eval o).run P w = .ok (.value v) w' := by
            simp only [execOp, hop, resolve, invoke, builtin, Sem.run_bind, Sem.run_pure, Result.andThen_ok, List.map_toArray, List.map_cons, List.map_nil, r2]
          rw [hrun, Oper.upon_value]
          rcases r3 with ⟨hnil, rfl, rfl, rfl⟩ | ⟨hne, b', e', c', hrep, hmem⟩
          · obtain ⟨q1, q2, q3⟩ := put_frame hf hn hd ho (ev_rep hfe hx)
            exact hnext _ _ _ _ _ r1 hm q1 q2 q3 (hK1 hnil)
          · have hk2 := hK2 hne
            obtain ⟨q1, q2, q3⟩ := put_frame (hf.mono r1) hn hd ho hrep
            split at hk2
            · exact hk2.elim
            · rcases hmem with ⟨g1, g2⟩ | ⟨s, e0, g1, g2⟩
              · exact hnext _ _ _ _ _ r1 g2 q1 q2 q3 (hk2 _ _ _ g1)
              · cases g1
            · rename_i s b0 e0 c0
              rcases hmem with ⟨g1, g2⟩ | ⟨s', e0', g1, g2⟩
              · refine hnext _ _ _ _ _ r1 (g2.sub fun b ob hob => ?_) q1 q2 q3 (hk2.2 _ _ _ (.inl g1))
                rw [hget_cons] at hob ⊢
                split at hob
                · rename_i hbb; rw [if_pos hbb]; exact hob
                · rename_i hbb; rw [if_neg hbb]; exact (hget_hdel hob).2
              · cases g1
                exact hnext _ _ _ _ _ r1 g2 q1 q2 q3 (hk2.2 _ _ _ (.inr rfl))
        · rename_i k z hsrc hk hz
          unfold appZ at h
          split at h
          · rename_i m
            obtain ⟨⟨a1, a2, a3, a4, a5, a6, a7, a8, a9⟩, hKK⟩ := h
            subst a2; subst a3
            obtain ⟨w', v, b, c, r1, r2, r3, r4, r5⟩ := append_make (rt := o.type) hm (ev_rep hfe hx) ht a1 hk hz a7 a8 a9 a4 a5 a6
            have ey := (ev_rep hfe hy).int_inv
            have hrun : (execOp a.eval o).run P w = .ok (.value v) w' := by
              simp only [execOp, hop, resolve, invoke, builtin, Sem.run_bind, Sem.run_pure, Result.andThen_ok, List.map_toArray, List.map_cons, List.map_nil, ey, r1]
            rw [hrun, Oper.upon_value]
            obtain ⟨q1, q2, q3⟩ := put_frame hf hn hd ho r4
            exact hnext _ _ _ _ _ M.le_refl r5 q1 q2 q3 (hKK _ _ r2 r3)
          · exact h.elim
        · exact h.elim
      · rename_i b oo len cap Y e n hx hy ht
        split at h
        · rename_i ys k z hsrc hk hz
          obtain ⟨⟨c1, c2, c3, c5, c6, c7, c8, c9⟩, cs, d1, d2, d3, d4, d5⟩ := h
          obtain ⟨w', v, r2, r3⟩ := append_ms (rt := o.type) hm (ev_rep hfe hx) (ev_rep hfe hy) ht hsrc hk hz c1 c2 c3 c5 c6 c7 c8 c9 d1 d2 d3
          have hrun : (execOp a.eval o).run P w = .ok (.value v) w' := by
            simp only [execOp, hop, resolve, invoke, builtin, Sem.run_bind, Sem.run_pure, Result.andThen_ok, List.map_toArray, List.map_cons, List.map_nil, r2]
          rw [hrun, Oper.upon_value]
          rcases r3 with ⟨g1, g2, g3⟩ | ⟨g1, b', c, g2, g3, g4, g5⟩
          · obtain ⟨q1, q2, q3⟩ := put_frame hf hn hd ho g2
            exact hnext _ _ _ _ _ M.le_refl g3 q1 q2 q3 (d4 g1)
          · obtain ⟨q1, q2, q3⟩ := put_frame hf hn hd ho g4
            exact hnext _ _ _ _ _ M.le_refl g5 q1 q2 q3 (d5 g1 _ _ g2 g3)
        · exact h.elim
      · exact h.elim
    · exact h.elim
  · rename_i t l c hop
    split at h
    · rename_i kl lv kc cv e n hl hc ht
      split at h
      · rename_i k z hk hz
        obtain ⟨⟨c1, c2, c3, c4, c5, c6⟩, hK⟩ := h
        have el := (ev_rep hfe hl).int_inv
        have ec := (ev_rep hfe hc).int_inv
        obtain ⟨zv, hzv, hzr⟩ := run_zeroValue hz w
        obtain ⟨hu, hs⟩ := tslice_info ht
        obtain ⟨i, hi, hin⟩ := tsz_info hs
        have hbytes : i.bytes = k := by unfold tbytes at hk; rw [hi] at hk; simpa using hk
        obtain ⟨ln, rfl⟩ := Int.eq_ofNat_of_zero_le c3
        obtain ⟨cn, rfl⟩ := Int.eq_ofNat_of_zero_le (Int.le_trans c3 c4)
        have hzc := plainV_cells c1 (hzr M)
        have hz0 : ∃ zs : Array Value, ((if cn * n = 0 then Pure.pure #[] else do let x ← zeroValue e; Pure.pure x.cells : Sem (Array Value))).run P w = .ok zs w ∧ (cn * n ≠ 0 → zs = zv.cells) := by
          by_cases h0 : cn * n = 0
          · exact ⟨#[], by rw [if_pos h0]; rfl, fun q => absurd h0 q⟩
          · refine ⟨zv.cells, ?_, fun _ => rfl⟩
            rw [if_neg h0]
            simp only [Sem.run_bind, hzv, Result.andThen_ok, Sem.run_pure]
        obtain ⟨zs, hzs1, hzs2⟩ := hz0
        have hfill := zero_fill (M := M) (len := cn) hzc c2 hzs2
        have hw1 : IntKind.i64.wrap (ln : Int) = ln := by unfold IntKind.wrap; simp only [IntKind.bits, IntKind.signed]; simp; omega
        have hw2 : IntKind.i64.wrap (cn : Int) = cn := by unfold IntKind.wrap; simp only [IntKind.bits, IntKind.signed]; simp; omega
        have hgn : hget G w.heap.size = none := by
          cases hq : hget G w.heap.size with
          | none => rfl
          | some ob => have := (hm.obj _ _ hq).2.lt; omega
        have ha := hm.alloc (.cells ((Array.range (cn * n)).map (fun i => zs[i % zs.size]!)) e)
        have hmem : Mem E M ((w.heap.size, .vars (List.replicate cn (cellsV z)).flatten) :: G) (w.alloc (.cells ((Array.range (cn * n)).map (fun i => zs[i % zs.size]!)) e)) := by
          refine ⟨ha.below, ha.base, ha.pm, fun b ob hob => ?_⟩
          rw [hget_cons] at hob
          by_cases hbb : w.heap.size = b
          · subst hbb
            rw [if_pos rfl] at hob
            cases hob
            refine ⟨hm.size, (Array.range (cn * n)).map (fun i => zs[i % zs.size]!), e, (0, 0), by show (w.heap.push _)[w.heap.size]? = _; simp, by have := hfill.1; rw [this]; simp, fun i hi => ?_, fun i _ _ h => by omega, fun o => hm.none_new (Nat.le_refl _) o⟩
            have := hfill.2 i hi
            rw [List.getD_eq_getElem?_getD, Array.getElem?_toList] at this
            rw [Array.getD_eq_getD_getElem?]; exact this
          · rw [if_neg hbb] at hob; exact ha.obj _ _ hob
        have hrun : (execOp a.eval o).run P w = .ok (.value (.slice (some ⟨w.heap.size, 0, none⟩) ln cn)) (w.alloc (.cells ((Array.range (cn * n)).map (fun i => zs[i % zs.size]!)) e)) := by
          have t1 : ¬ ((i.bytes : Int) * (cn : Int) > 2 ^ 48) := by rw [hbytes, Int.mul_comm]; omega
          have t2 : ¬ ((cn : Int) < 0) := by omega
          have t3 : ¬ ((ln : Int) < 0) := by omega
          have t4 : ¬ ((ln : Int) > (cn : Int)) := by omega
          simp only [execOp, hop, el, ec, Instr.makeSlice, Sem.run_bind, run_underlying hu, Result.andThen_ok, asInt, asIntOf, Sem.run_pure, typeInfo, run_program, hi, hw1, hw2, Int.toNat_natCast, run_sizeOf hs, run_askRoom, newRow, run_newObj, t1, t2, t3, t4, decide_false, Bool.or_self, Bool.false_eq_true, if_false]
          by_cases h0 : cn * n = 0
          · rw [if_pos h0] at hzs1 ⊢
            simp only [Sem.run_pure, Result.ok.injEq, and_true] at hzs1
            subst hzs1
            simp only [Sem.run_bind, Sem.run_pure, Result.andThen_ok, run_newObj]
            rfl
          · rw [if_neg h0] at hzs1 ⊢
            simp only [Sem.run_bind, hzv, Sem.run_pure, Result.andThen_ok, Result.ok.injEq, and_true] at hzs1
            subst hzs1
            simp only [Sem.run_bind, hzv, Sem.run_pure, Result.andThen_ok, run_newObj]
            rfl
        rw [hrun, Oper.upon_value]
        obtain ⟨q1, q2, q3⟩ := put_frame hf hn hd ho (Rep.ms (M := M) w.heap.size 0 ln cn (by omega))
        exact hnext M _ _ _ _ M.le_refl hmem q1 q2 q3 (hK _ hgn)
      · exact h.elim
    · exact h.elim
  · rename_i t hop
    obtain ⟨hg, hmem⟩ := hm.new_map
    have hrun : (execOp a.eval o).run P w = .ok (.value (.map (some w.heap.size))) (w.alloc (.map #[] 0)) := by
      simp only [execOp, hop, Option.map_none]
      rfl
    rw [hrun, Oper.upon_value]
    obtain ⟨q1, q2, q3⟩ := put_frame hf hn hd ho (Rep.map (M := M) w.heap.size)
    exact hnext M _ _ _ _ M.le_refl hmem q1 q2 q3 (h _ hg)
  · rename_i t m k x hop
    split at h
    · rename_i b KK X kt z hmv hkv hxv ht
      split at h
      · rename_i kvs hb
        split at h
        · rename_i r hf2
          obtain ⟨hs, h⟩ := h
          have he := (ev_rep hfe hmv).map_inv
          obtain ⟨w', g1, g2⟩ := put_ok (X := X) hm hb ht hs (ev_rep hfe hkv) (ev_rep hfe hxv) hf2
          have hrun : (execOp a.eval o).run P w = .ok .skip w' := by
            simp only [execOp, hop, he, Sem.run_bind, g1, Result.andThen_ok, Sem.run_pure]
          rw [hrun, Oper.upon_skip]
          obtain ⟨q1, q2, q3⟩ := put_frame hf hn hd ho (Rep.any (M := M) undef)
          exact hnext M _ _ _ _ M.le_refl g2 q1 q2 q3 h
        · exact h.elim
      · rename_i kvs r0 td0 cu0 hb
        split at h
        · rename_i j0 x0 hf2
          obtain ⟨hs, h⟩ := h
          have he := (ev_rep hfe hmv).map_inv
          obtain ⟨w', g1, g2⟩ := put_okr (X := X) hm hb ht hs (ev_rep hfe hkv) (ev_rep hfe hxv) hf2
          have hrun : (execOp a.eval o).run P w = .ok .skip w' := by
            simp only [execOp, hop, he, Sem.run_bind, g1, Result.andThen_ok, Sem.run_pure]
          rw [hrun, Oper.upon_skip]
          obtain ⟨q1, q2, q3⟩ := put_frame hf hn hd ho (Rep.any (M := M) undef)
          exact hnext M _ _ _ _ M.le_refl g2 q1 q2 q3 h
        · exact h.elim
      · exact h.elim
    · exact h.elim
  · rename_i t m k x hop
    split at h
    · rename_i b KK X kt z hmv hkv hxv ht
      split at h
      · rename_i kvs hb
        split at h
        · rename_i r hf2
          obtain ⟨hs, h⟩ := h
          have he := (ev_rep hfe hmv).map_inv
          obtain ⟨w', g1, g2⟩ := put_ok (X := X) hm hb ht hs (ev_rep hfe hkv) (ev_rep hfe hxv) hf2
          have hrun : (execOp a.eval o).run P w = .ok .skip w' := by
            simp only [execOp, hop, he, Sem.run_bind, g1, Result.andThen_ok, Sem.run_pure]
          rw [hrun, Oper.upon_skip]
          obtain ⟨q1, q2, q3⟩ := put_frame hf hn hd ho (Rep.any (M := M) undef)
          exact hnext M _ _ _ _ M.le_refl g2 q1 q2 q3 h
        · exact h.elim
      · rename_i kvs r0 td0 cu0 hb
        split at h
        · rename_i j0 x0 hf2
          obtain ⟨hs, h⟩ := h
          have he := (ev_rep hfe hmv).map_inv
          obtain ⟨w', g1, g2⟩ := put_okr (X := X) hm hb ht hs (ev_rep hfe hkv) (ev_rep hfe hxv) hf2
          have hrun : (execOp a.eval o).run P w = .ok .skip w' := by
            simp only [execOp, hop, he, Sem.run_bind, g1, Result.andThen_ok, Sem.run_pure]
          rw [hrun, Oper.upon_skip]
          obtain ⟨q1, q2, q3⟩ := put_frame hf hn hd ho (Rep.any (M := M) undef)
          exact hnext M _ _ _ _ M.le_refl g2 q1 q2 q3 h
        · exact h.elim
      · exact h.elim
    · exact h.elim
  · rename_i t x hop
    split at h
    · rename_i s hx
      obtain ⟨ht, h⟩ := h
      have he := (ev_rep hfe hx).str_inv
      have hrun : (execOp a.eval o).run P w = .ok (.value (.pointer (some ⟨w.heap.size, 0, none⟩))) (w.alloc (.stringIter ⟨s.toArray⟩ 0)) := by
        simp only [execOp, hop, he, Sem.run_bind, run_range_string w t _ (isStr_info ht), Result.andThen_ok, Sem.run_pure]
        rfl
      rw [hrun, Oper.upon_value]
      obtain ⟨q1, q2, q3⟩ := put_frame hf hn hd ho (Rep.ptr (M := M) w.heap.size 0)
      exact hnext M _ _ _ _ M.le_refl (hm.new_siter s) q1 q2 q3 (h _ hm.fresh)
    · rename_i m hx
      split at h
      · rename_i kvs hb
        obtain ⟨ht, h⟩ := h
        have he := (ev_rep hfe hx).map_inv
        obtain ⟨w', g1, g2⟩ := range_map (P := P) hm hb ht
        have hrun : (execOp a.eval o).run P w = .ok (.value (.pointer (some ⟨w.heap.size, 0, none⟩))) w' := by
          simp only [execOp, hop, he, Sem.run_bind, g1, Result.andThen_ok, Sem.run_pure]
        rw [hrun, Oper.upon_value]
        obtain ⟨q1, q2, q3⟩ := put_frame hf hn hd ho (Rep.ptr (M := M) w.heap.size 0)
        exact hnext M _ _ _ _ M.le_refl g2 q1 q2 q3 (h _ hm.fresh)
      · exact h.elim
    · exact h.elim
  · rename_i x str hop
    split at h
    · rename_i r0 o0 hx
      obtain ⟨h0, h⟩ := h
      subst h0
      have he := (ev_rep hfe hx).ptr_inv
      split at h
      · rename_i s pos hr
        obtain ⟨hs, h1, h2⟩ := h
        subst hs
        obtain ⟨n1, n2⟩ := next_str (P := P) hm hr o.type
        by_cases hp : pos < s.length
        · obtain ⟨ha, hk⟩ := h1 hp
          obtain ⟨w', g1, g2⟩ := n1 hp ha
          have hrun : (execOp a.eval o).run P w = .ok (.value (.tuple #[.bool true, .int .i64 pos, .int .i32 (s[pos].toNat : Nat)])) w' := by
            simp only [execOp, hop, he, Sem.run_bind, g1, Result.andThen_ok, Sem.run_pure]
          rw [hrun, Oper.upon_value]
          obtain ⟨q1, q2, q3⟩ := put_frame hf hn hd ho (RepL.tup (M := M) (.cons (.bool true) (.cons (.int .i64 pos) (.cons (.int .i32 (s[pos].toNat : Nat)) .nil))))
          exact hnext M _ _ _ _ M.le_refl g2 q1 q2 q3 hk
        · have hrun : (execOp a.eval o).run P w = .ok (.value (.tuple #[.bool false])) w := by
            simp only [execOp, hop, he, Sem.run_bind, n2 hp, Result.andThen_ok, Sem.run_pure]
          rw [hrun, Oper.upon_value]
          obtain ⟨q1, q2, q3⟩ := put_frame hf hn hd ho (RepL.tup (M := M) (.cons (.bool false) .nil))
          exact hnext M _ _ _ _ M.le_refl hm q1 q2 q3 (h2 hp)
      · rename_i m hr
        split at h
        · rename_i kvs r' todo cur hb
          obtain ⟨hs, hrr, h1, h2⟩ := h
          subst hs
          subst hrr
          rcases next_map (P := P) hm hr hb o.type with ⟨q0, g1⟩ | ⟨i, hi, hik, w', kv, vv, g1, g2, g3, g4⟩
          · have hrun : (execOp a.eval o).run P w = .ok (.value (.tuple #[.bool false])) w := by
              simp only [execOp, hop, he, Sem.run_bind, g1, Result.andThen_ok, Sem.run_pure]
            rw [hrun, Oper.upon_value]
            obtain ⟨q1, q2, q3⟩ := put_frame hf hn hd ho (RepL.tup (M := M) (.cons (.bool false) .nil))
            exact hnext M _ _ _ _ M.le_refl hm q1 q2 q3 (h1 q0)
          · have hrun : (execOp a.eval o).run P w = .ok (.value (.tuple #[.bool true, kv, vv])) w' := by
              simp only [execOp, hop, he, Sem.run_bind, g1, Result.andThen_ok, Sem.run_pure]
            rw [hrun, Oper.upon_value]
            obtain ⟨q1, q2, q3⟩ := put_frame hf hn hd ho (RepL.tup (M := M) (.cons (.bool true) (.cons g2 (.cons g3 .nil))))
            exact hnext M _ _ _ _ M.le_refl g4 q1 q2 q3 (h2 i hi hik)
        · exact h.elim
      · exact h.elim
    · exact h.elim
  · exact h.elim
theorem stepV_ok {o : Oper} {K : Kv} {fe : FF} (h : stepV P fe G o.op K) (hm : Mem E M G w) (hfe : RepG M fe a.tmps) (hf : RepG M f a.tmps) (hn : a.tmps.size = N) (hd : a.defers = []) (ho : dstOk N o = true) {next : Act → World → Prop} {Q' : Exit → Act → World → Prop} (hnext : Owed P E M N f o.dst K next) :
    o.upon P a next Q' ((execOp a.eval o).run P w) := by
  unfold stepV at h
  split at h
  · rename_i C x hq
    obtain ⟨M', w', v, h1, h2, h3, h4⟩ := qv_ok hq h.1 hm hfe
    rw [h4, Oper.upon_value]
    obtain ⟨q1, q2, q3⟩ := put_frame (hf.mono h1) hn hd ho h3
    exact hnext M' _ _ _ _ h1 h2 q1 q2 q3 h.2
  · exact fx_ok h hm hfe hf hn hd ho hnext
end

/-! ### regions in one order -/
/-- The variable that a guard looks at. -/
def gtmp (ops : List Oper) (j : Nat) : Option Tmp := (ops[j]?).bind (·.dst)
/-- An operation under a guard. -/
def gstep (P : Program) (g : Bool) (f : FF) (G : Heap) (op : Op) (K : Kv) : Prop :=
  match qv P (unF g f) G op with
  | some (C, x) => (g = true → C) ∧ K (.opt g x) G
  | none => (g = true → fx P (unF g f) G op (fun x G => K (.opt g x) G)) ∧ (g = false → ∃ x, K (.opt g x) G)
def rg (P : Program) (ops : List Oper) : List Oper → Frame → Heap → Kf → Prop
  | [], f, G, K => K f G
  | o :: os, f, G, K => match o.guard with
    | none => stepV P (fget f) G o.op (fun x G => rg P ops os (fput f o.dst x) G K)
    | some (j, want) => match gtmp ops j with
      | some d => match (fget f d).bind (gcond want) with
        | some g => gstep P g (fget f) G o.op (fun x G => rg P ops os (fput f o.dst x) G K)
        | none => False
      | none => False
theorem wanted_of {M : PM} {ops : List Oper} {o : Oper} {j : Nat} {want : Bool} {d : Tmp} {g : Bool} {f : FF} {t : Array Value} (hf : RepG M f t) (ho : o.guard = some (j, want)) (hgt : gtmp ops j = some d) (hv : (f d).bind (gcond want) = some g) : Region.wanted o (yielded ops.toArray t) = g := by
  cases hx : f d with
  | none => rw [hx] at hv; cases hv
  | some x =>
    rw [hx] at hv
    obtain ⟨h1, h2⟩ := hf d _ hx
    unfold gtmp at hgt
    have e0 : ((ops.toArray[j]?).bind (·.dst)).bind (t[·]?) = some (t.getD d undef) := by
      have e1 : ops.toArray[j]? = ops[j]? := by simp
      rw [e1, hgt, Option.bind_some, Array.getElem?_eq_getElem h1, Array.getD_eq_getD_getElem?, Array.getElem?_eq_getElem h1]; rfl
    generalize t.getD d undef = val at h2 e0
    simp only [Option.bind_some] at hv
    unfold gcond at hv
    split at hv
    · rename_i b
      cases hv
      have h3 := h2.bool_inv
      have hy : yielded ops.toArray t j = some b := by unfold yielded; rw [e0, h3]
      simp only [Region.wanted, ho, hy]
      cases b <;> cases want <;> rfl
    · rename_i g' b
      cases hv
      cases h2 with
      | optT x v h2 =>
        rename_i hval
        have h3 := h2.bool_inv
        have hy : yielded ops.toArray t j = some b := by unfold yielded; rw [e0, h3]
        simp only [Region.wanted, ho, hy]
        cases b <;> cases want <;> rfl
      | optF x =>
        have hy : yielded ops.toArray t j = none := by unfold yielded; rw [e0]; simp_all [undef]
        simp only [Region.wanted, ho, hy]
        rfl
    · cases hv
      cases h2 with
      | optF x =>
        have hy : yielded ops.toArray t j = none := by unfold yielded; rw [e0]; simp_all [undef]
        simp only [Region.wanted, ho, hy]
        rfl
    · cases hv
theorem RepG.same {M : PM} {f : FF} {t : Array Value} {d : Nat} {x : V} (hf : RepG M f t) (hd : f d = some x) : RepG M (upd f (some d) x) t := by
  intro i u k
  simp only [upd] at k
  by_cases e : d = i
  · subst e; rw [if_pos rfl] at k; cases k; exact hf _ _ hd
  · rw [if_neg e] at k; exact hf _ _ k
theorem RepG.optT {M : PM} {f : FF} {t : Array Value} {d : Option Tmp} {x : V} (hf : RepG M (upd f d x) t) : RepG M (upd f d (.opt true x)) t := by
  intro i u k
  cases d with
  | none => exact hf i u k
  | some d =>
    simp only [upd] at k
    by_cases e : d = i
    · subst e; rw [if_pos rfl] at k; cases k
      obtain ⟨h1, h2⟩ := hf d x (by simp [upd])
      exact ⟨h1, .optT _ _ h2⟩
    · rw [if_neg e] at k; exact hf i u (by simp [upd, e, k])
section
variable {P : Program} {N : Nat} {Q : Cont} {f : Frame} {G : Heap}
theorem stepV_frame {f f' : FF} (he : f = f') {G : Heap} {op : Op} {K : Kv} (h : stepV P f G op K) : stepV P f' G op K := he ▸ h
/-- What a guarded operation does, where its guard is met: as one without a guard, of what stands there then. -/
theorem gstep_true {f : FF} {op : Op} {K : Kv} (h : gstep P true f G op K) : stepV P (unF true f) G op (fun x G => K (.opt true x) G) := by
  unfold gstep at h
  unfold stepV
  split at h
  · exact ⟨h.1 rfl, h.2⟩
  · exact h.1 rfl
theorem gstep_false {f : FF} {op : Op} {K : Kv} (h : gstep P false f G op K) : ∃ x, K (.opt false x) G := by
  unfold gstep at h
  split at h
  · exact ⟨_, h.2⟩
  · exact h.2 rfl
theorem rg_ok {ops : List Oper} {E : Env} {Q' : Exit → Act → World → Prop} : ∀ {l : List Oper} {f : Frame} {G : Heap} {K : Kf} {M : PM} {w : World} {a : Act}, rg P ops l f G K → l.all (dstOk N) = true → Mem E M G w → RepF M f a.tmps → a.tmps.size = N → a.defers = [] →
    (∀ M' f' G' (a' : Act) w', M.le M' → Mem E M' G' w' → RepF M' f' a'.tmps → a'.tmps.size = N → a'.defers = [] → K f' G' → Q' .normal a' w') → wpList P ops.toArray Q' l a w
  | [], f, G, K, M, w, a, h, ha, hm, hf, hn, hd, hq => hq M f G a w M.le_refl hm hf hn hd (by simpa [rg] using h)
  | o :: os, f, G, K, M, w, a, h, ha, hm, hf, hn, hd, hq => by
    simp only [List.all_cons, Bool.and_eq_true] at ha
    unfold rg at h
    unfold wpList
    cases hg : o.guard with
    | none =>
      rw [hg] at h
      rw [if_pos (by simp [Region.wanted, hg])]
      exact .inl (stepV_ok (N := N) h hm hf hf hn hd ha.1 fun M' x G' a' w' k1 k2 k3 k4 k5 k6 =>
        rg_ok k6 ha.2 k2 (by rw [RepF, fget_fput]; exact k3) k4 k5 fun M2 f2 G2 a2 w2 j1 j2 j3 j4 j5 j6 => hq M2 f2 G2 a2 w2 (PM.le_trans k1 j1) j2 j3 j4 j5 j6)
    | some jw =>
      obtain ⟨j, want⟩ := jw
      rw [hg] at h
      simp only at h
      split at h
      · rename_i d hgt
        split at h
        · rename_i g hv
          have hw := wanted_of hf hg hgt hv
          rw [hw]
          cases g with
          | true =>
            rw [if_pos rfl]
            exact .inl (stepV_ok (N := N) (gstep_true h) hm (unF_rep hf) hf hn hd ha.1 fun M' x G' a' w' k1 k2 k3 k4 k5 k6 =>
              rg_ok k6 ha.2 k2 (by rw [RepF, fget_fput]; exact k3.optT) k4 k5 fun M2 f2 G2 a2 w2 j1 j2 j3 j4 j5 j6 => hq M2 f2 G2 a2 w2 (PM.le_trans k1 j1) j2 j3 j4 j5 j6)
          | false =>
            rw [if_neg (by simp)]
            obtain ⟨x, h2⟩ := gstep_false h
            obtain ⟨q1, q2, q3⟩ := put_frame hf hn hd ha.1 (Rep.optF (M := M) x)
            exact rg_ok h2 ha.2 hm (by rw [RepF, fget_fput]; exact q1) q2 q3 hq
        · exact h.elim
      · exact h.elim
theorem aw_region {id : Nat} {ops : List Oper} (hd : ops.all (dstOk N) = true) (h : rg P ops ops f G (fun f G => Q .normal f G)) : AW P N (.region id ops.toArray false) Q f G := by
  intro E M w a hm hr hn hdf
  refine wp_region_list (P := P) (ops := ops.toArray) ?_
  simp only
  exact rg_ok h hd hm hr hn hdf fun M' f' G' a' w' k1 k2 k3 k4 k5 k6 => ⟨M', f', G', k1, k2, k3, k4, k5, k6⟩
end
end Go.Proofs.YtclmcpbanaojfaaV

/-
  Regions that draw their order: what answers without writing may be taken first.
-/
namespace Go.Proofs.YtclmcpbanaojfaaV
open Go.RowKit
set_option linter.unusedVariables false
set_option linter.unusedSimpArgs false

section
variable {P : Program} {f f' : FF} {G G' : Heap}
theorem ev_congr {x : Operand} (h : ∀ t, x = .tmp t → f t = f' t) : ev f x = ev f' x := by
  cases x with
  | tmp t => exact h t rfl
  | _ => rfl
theorem evL_congr : ∀ {l : List Operand}, (∀ x ∈ l, ev f x = ev f' x) → evL f l = evL f' l
  | [], _ => rfl
  | x :: l, h => by simp only [evL, h x (by simp), evL_congr (l := l) (fun y hy => h y (by simp [hy]))]
theorem fillC_congr {place : Nat → Option (Nat × Nat)} : ∀ {ps : List (Nat × Operand)} {cs : List V}, (∀ p ∈ ps, ev f p.2 = ev f' p.2) → fillC place f cs ps = fillC place f' cs ps
  | [], _, _ => rfl
  | (i, o) :: ps, cs, h => by
    simp only [fillC, h (i, o) (by simp)]
    split
    · split
      · exact fillC_congr (fun p hp => h p (by simp [hp]))
      · rfl
    · rfl
theorem fillE_congr {n : Nat} : ∀ {ps : List (Nat × Operand)} {es : List (List V)}, (∀ p ∈ ps, ev f p.2 = ev f' p.2) → fillE n f es ps = fillE n f' es ps
  | [], _, _ => rfl
  | (i, o) :: ps, es, h => by
    simp only [fillE, h (i, o) (by simp)]
    split
    · split
      · exact fillE_congr (fun p hp => h p (by simp [hp]))
      · rfl
    · rfl
theorem evO_congr {x : Option Operand} (h : ∀ y, x = some y → ev f y = ev f' y) : evO f x = evO f' x := by
  cases x with
  | none => rfl
  | some y => simp only [evO, h y rfl]
theorem qv_congr {op : Op} (h : ∀ x ∈ op.operands, ev f x = ev f' x) : qv P f G op = qv P f' G op := by
  cases op <;> simp only [qv] <;> simp only [Op.operands] at h <;> try rfl
  case move x => rw [h x (by simp)]
  case assign x => rw [h x (by simp)]
  case pick c a b => rw [h c (by simp), h a (by simp), h b (by simp)]
  case nilCheck x => rw [h x (by simp)]
  case binOp op t x y yt => rw [h x (by simp), h y (by simp)]
  case unOp op t x => rw [h x (by simp)]
  case convert s d x => rw [h x (by simp)]
  case makeInterface t x => rw [h x (by simp)]
  case makeFunc fn xs ys => rw [evL_congr (l := xs.toList) (fun x hx => h x (by simp at hx; simp [hx])), evL_congr (l := ys.toList) (fun x hx => h x (by simp at hx; simp [hx]))]
  case lookup t x k okk => rw [h x (by simp), h k (by simp)]
  case entry x => rw [h x (by simp)]
  case slice t x lo hi mx => rw [h x (by simp), evO_congr (x := mx) (fun y hy => h y (by subst hy; simp)), evO_congr (x := lo) (fun y hy => h y (by subst hy; simp)), evO_congr (x := hi) (fun y hy => h y (by subst hy; simp))]
  case fieldAddr s x i => rw [h x (by simp)]
  case field s x i => rw [h x (by simp)]
  case indexAddr t x i => rw [h x (by simp), h i (by simp)]
  case index t x i => rw [h x (by simp), h i (by simp)]
  case extract x i => rw [h x (by simp)]
  case load t x => rw [h x (by simp)]
  case build t ps =>
    split
    · rw [fillC_congr (fun p hp => h p.2 (by simp; exact ⟨p.1, by simpa using hp⟩))]
    · rfl
  case buildSlice t n ps =>
    split
    · split
      · split
        · rw [fillE_congr (fun p hp => h p.2 (by simp; exact ⟨p.1, by simpa using hp⟩))]
        · rfl
      · rfl
    · rfl
  case call c =>
    obtain ⟨cal, as_, ts⟩ := c
    cases cal with
    | builtin b =>
      simp only
      have h' : ∀ x ∈ as_.toList, ev f x = ev f' x := fun x hx => h x (by simp [Call.operands]; simpa using hx)
      split
      · rename_i x t ts' ha ht; rw [h' x (by rw [ha]; simp)]
      · rename_i x t ts' ha ht; rw [h' x (by rw [ha]; simp)]
      · rename_i x y ha; rw [h' x (by rw [ha]; simp), h' y (by rw [ha]; simp)]
      · rename_i x y ha; rw [h' x (by rw [ha]; simp), h' y (by rw [ha]; simp)]
      · rfl
    | _ => rfl

/-- An operation that answers without looking at what may be written. -/
def pureOp : Op → Bool
  | .load _ _ => false
  | .lookup _ _ _ _ => false
  | .entry _ => false
  | .call _ => false
  | _ => true
theorem qv_pure {op : Op} (h : pureOp op = true) : qv P f G op = qv P f G' op := by
  cases op <;> simp only [qv] <;> try rfl
  case load => simp [pureOp] at h
  case lookup => simp [pureOp] at h
  case entry => simp [pureOp] at h
  case call c => obtain ⟨cal, as_, ts⟩ := c; cases cal <;> first | rfl | (simp [pureOp] at h)
/-- What may be written says as much behind as ahead, but for the room behind slices. -/
def Stable (G G' : Heap) : Prop := ∀ b o, hget G b = some o → (∀ e c, o ≠ .top e c) → hget G' b = some o
theorem Stable.refl (G : Heap) : Stable G G := fun _ _ h _ => h
theorem Stable.trans {A B C : Heap} (h : Stable A B) (k : Stable B C) : Stable A C := fun b o q n => k b o (h b o q n) n
/-- A call that, wherever what G says of variables and maps is true, leaves the heap as it is and answers x. -/
def QOn (P : Program) (G : Heap) (g : FuncId) (args : List V) (x : V) : Prop := ∀ G', Stable G G' → ACall P g args (fun y G2 => y = x ∧ G2 = G') G'
theorem Quiet.qon {P : Program} {g : FuncId} {args : List V} {x : V} (h : Quiet P g args x) (G : Heap) : QOn P G g args x := fun G' _ => h G'
theorem QOn.stable {P : Program} {g : FuncId} {args : List V} {x : V} {G G' : Heap} (h : QOn P G g args x) (hs : Stable G G') : QOn P G' g args x := fun G2 h2 => h G2 (hs.trans h2)
theorem QOn.call {P : Program} {g : FuncId} {args : List V} {x : V} {G : Heap} (h : QOn P G g args x) {Q : V → Heap → Prop} (hq : Q x G) : ACall P g args Q G :=
  (h G (Stable.refl G)).mono fun y G' ⟨h1, h2⟩ => by subst h1; subst h2; exact hq
theorem loadV_stable (h : Stable G G') {t : TypeId} {X x : V} (hx : loadV P G t X = some x) : loadV P G' t X = some x := by
  unfold loadV at hx ⊢
  split at hx
  · rename_i b o
    split at hx
    · rename_i cs hb
      rw [h b _ hb (by simp)]; exact hx
    · cases hx
  · exact hx
  · cases hx
theorem lenV_stable (h : Stable G G') {t : TypeId} {X : V} {r : Prop × V} (hx : lenV P G t X = some r) : lenV P G' t X = some r := by
  unfold lenV at hx ⊢
  split at hx
  · exact hx
  · exact hx
  · exact hx
  · exact hx
  · rename_i b
    split at hx
    · rename_i hk
      rw [if_pos hk]
      split at hx
      · rename_i kvs hb
        rw [h b _ hb (by simp)]; exact hx
      · rename_i kvs r0 td0 cu0 hb
        rw [h b _ hb (by simp)]; exact hx
      · cases hx
    · cases hx
  · cases hx
theorem entV_stable (h : Stable G G') {X : V} {r : Prop × V} (hx : entV G X = some r) : entV G' X = some r := by
  unfold entV at hx ⊢
  split at hx
  · split at hx
    · rename_i h0
      rw [if_pos h0]
      split at hx
      · rename_i m hr
        rw [h _ _ hr (by simp)]
        simp only
        split at hx
        · rename_i kvs r' td c hb
          rw [h _ _ hb (by simp)]
          exact hx
        · cases hx
      · cases hx
    · cases hx
  · cases hx
theorem qv_stable (h : Stable G G') {op : Op} {r : Prop × V} (hx : qv P f G op = some r) : qv P f G' op = some r := by
  by_cases hp : pureOp op = true
  · rw [← qv_pure (G := G) hp]; exact hx
  · cases op <;> simp only [pureOp, not_true_eq_false] at hp
    case load t a =>
      simp only [qv] at hx ⊢
      split at hx
      · rename_i X hX
        split at hx
        · rename_i Y hY
          simp only [hX, loadV_stable h hY]; exact hx
        · cases hx
      · cases hx
    case lookup t x k okk =>
      simp only [qv] at hx ⊢
      split at hx
      · rename_i X K kt z hX hK ht
        split at hx
        · rename_i hs
          rw [if_pos hs]
          unfold lookV at hx ⊢
          split at hx
          · exact hx
          · rename_i b
            split at hx
            · rename_i kvs hb
              rw [h b _ hb (by simp)]; exact hx
            · rename_i kvs r0 td0 cu0 hb
              rw [h b _ hb (by simp)]; exact hx
            · cases hx
          · cases hx
        · cases hx
      · cases hx
    case entry x =>
      simp only [qv] at hx ⊢
      split at hx
      · rename_i X hX
        (try simp only [hX]); exact entV_stable h hx
      · cases hx
    case call c =>
      obtain ⟨cal, as_, ts⟩ := c
      cases cal <;> try exact hx
      rename_i b
      simp only [qv] at hx ⊢
      split at hx
      · rename_i x t ts' ha ht
        try simp only [ha, ht]
        split at hx
        · rename_i X hX
          (try simp only [hX]); exact lenV_stable h hx
        · cases hx
      · rename_i x t ts' ha ht; (try simp only [ha, ht]); exact hx
      · rename_i x y ha; (try simp only [ha]); exact hx
      · rename_i x y ha; (try simp only [ha]); exact hx
      · cases hx

/-- An answer that leaves the heap as it is. -/
def QEv (P : Program) (f : FF) (G : Heap) (op : Op) (x : V) : Prop :=
  (∃ C, qv P f G op = some (C, x) ∧ C) ∨
  ∃ c as_ ts g xs ys zs, op = .call { callee := .value c, args := as_, argTypes := ts } ∧ callee f c = some (g, xs, ys) ∧ evL f as_.toList = some zs ∧ QOn P G g (xs ++ zs ++ ys) x
theorem callee_congr {c : Operand} (h : ev f c = ev f' c) : callee f c = callee f' c := by
  cases c with
  | func g => rfl
  | _ => simp only [callee, h]
theorem QEv.congr {op : Op} {x : V} (hq : QEv P f G op x) (h : ∀ y ∈ op.operands, ev f y = ev f' y) : QEv P f' G op x := by
  rcases hq with ⟨C, h1, h2⟩ | ⟨c, as_, ts, g, xs, ys, zs, rfl, h1, h2, h3⟩
  · exact .inl ⟨C, by rw [← qv_congr h]; exact h1, h2⟩
  · refine .inr ⟨c, as_, ts, g, xs, ys, zs, rfl, ?_, ?_, h3⟩
    · rw [← callee_congr (h c (by simp [Op.operands, Call.operands]))]; exact h1
    · rw [← evL_congr (fun y hy => h y (by simp [Op.operands, Call.operands]; right; simpa using hy))]; exact h2
theorem QEv.stable {op : Op} {x : V} (hq : QEv P f G op x) (h : Stable G G') : QEv P f G' op x := by
  rcases hq with ⟨C, h1, h2⟩ | hq
  · exact .inl ⟨C, qv_stable h h1, h2⟩
  · obtain ⟨c, as_, ts, g, xs, ys, zs, e, h1, h2, h3⟩ := hq
    exact .inr ⟨c, as_, ts, g, xs, ys, zs, e, h1, h2, h3.stable h⟩
theorem QEv.pure {op : Op} {x : V} (hp : pureOp op = true) (hq : QEv P f G op x) (G' : Heap) : QEv P f G' op x := by
  rcases hq with ⟨C, h1, h2⟩ | hq
  · exact .inl ⟨C, by rw [← qv_pure (G := G) hp]; exact h1, h2⟩
  · obtain ⟨c, as_, ts, g, xs, ys, zs, rfl, _⟩ := hq
    simp [pureOp] at hp
theorem QEv.step {op : Op} {x : V} {K : Kv} (hq : QEv P f G op x) (hk : K x G) : stepV P f G op K := by
  rcases hq with ⟨C, h1, h2⟩ | ⟨c, as_, ts, g, xs, ys, zs, rfl, h1, h2, h3⟩
  · unfold stepV; rw [h1]; exact ⟨h2, hk⟩
  · have hn : qv P f G (.call { callee := .value c, args := as_, argTypes := ts }) = none := by simp only [qv]
    unfold stepV
    rw [hn]
    simp only [fx, h1, h2]
    exact h3.call hk
theorem fx_congr {op : Op} {K : Kv} (h : ∀ x ∈ op.operands, ev f x = ev f' x) (hf : fx P f G op K) : fx P f' G op K := by
  unfold fx at hf ⊢
  split at hf
  · exact hf
  · rename_i t x; rw [← h x (by simp [Op.operands])]; exact hf
  · rename_i t p x; rw [← h p (by simp [Op.operands]), ← h x (by simp [Op.operands])]; exact hf
  · rename_i c as_ ts
    rw [← callee_congr (h c (by simp [Op.operands, Call.operands])), ← evL_congr (fun y hy => h y (by simp [Op.operands, Call.operands]; right; simpa using hy))]
    exact hf
  · rename_i as_ ts
    split at hf
    · rename_i x y tx ty ha ht
      have hx : x ∈ as_ := by have : x ∈ as_.toList := by rw [ha]; simp
                              simpa using this
      have hy : y ∈ as_ := by have : y ∈ as_.toList := by rw [ha]; simp
                              simpa using this
      try simp only
      rw [← h x (by simp [Op.operands, Call.operands, hx]), ← h y (by simp [Op.operands, Call.operands, hy])]
      exact hf
    · exact hf.elim
  · rename_i t l c; rw [← h l (by simp [Op.operands]), ← h c (by simp [Op.operands])]; exact hf
  · exact hf
  · rename_i t m k x; rw [← h m (by simp [Op.operands]), ← h k (by simp [Op.operands]), ← h x (by simp [Op.operands])]; exact hf
  · rename_i t m k x; rw [← h m (by simp [Op.operands]), ← h k (by simp [Op.operands]), ← h x (by simp [Op.operands])]; exact hf
  · rename_i t x; rw [← h x (by simp [Op.operands])]; exact hf
  · rename_i x str; rw [← h x (by simp [Op.operands])]; exact hf
  · exact hf.elim
theorem stepV_congr {op : Op} {K : Kv} (h : ∀ x ∈ op.operands, ev f x = ev f' x) (hf : stepV P f G op K) : stepV P f' G op K := by
  unfold stepV at hf ⊢
  rw [← qv_congr h]
  split at hf
  · exact hf
  · exact fx_congr h hf

/-- An operation that leaves variables and maps as they are. -/
def mildOp : Op → Bool
  | .alloc _ | .box _ _ | .makeSlice _ _ _ | .makeMap _ _ => true
  | .call { callee := .builtin .append, .. } => true
  | .call { callee := .builtin .len, .. } => true
  | .call { callee := .builtin .cap, .. } => true
  | .call _ => false
  | .store _ _ _ | .mapUpdate _ _ _ _ | .insert _ _ _ _ | .mapEntry _ _ _ | .entryStore _ _ _ _ | .next _ _ | .range _ _ | .entry _ => false
  | .go _ | .defer _ | .panic _ | .send _ _ | .recv _ _ _ | .select _ _ => false
  | _ => true
theorem Stable.cons {b : Nat} {o : AObj} (hb : hget G b = none) : Stable G ((b, o) :: G) := fun b' o' h _ => by
  rw [hget_cons]; rw [if_neg]
  · exact h
  · intro e; subst e; rw [hb] at h; cases h
theorem hget_hdel_ne {b b' : Nat} (h : b' ≠ b) : ∀ G : Heap, hget (hdel G b) b' = hget G b'
  | [] => rfl
  | (k, u) :: G => by
    simp only [hdel]
    by_cases e : k = b
    · subst e; rw [if_pos rfl, hget_hdel_ne h G]; simp only [hget]; rw [if_neg (fun q => h q.symm)]
    · rw [if_neg e]
      simp only [hget]
      split
      · rfl
      · exact hget_hdel_ne h G
theorem fx_mild {op : Op} {K : Kv} (hm : mildOp op = true) (h : fx P f G op K) : fx P f G op (fun x G' => Stable G G' ∧ K x G') := by
  unfold fx at h ⊢
  split at h
  · split at h
    · exact ⟨h.1, fun b hb => ⟨Stable.cons hb, h.2 b hb⟩⟩
    · exact h
  · split at h
    · exact ⟨h.1, fun b hb => ⟨Stable.cons hb, h.2 b hb⟩⟩
    · exact h
  · simp [mildOp] at hm
  · simp [mildOp] at hm
  · split at h
    · split at h
      · split at h
        · refine ⟨h.1, h.2.imp (fun h => ⟨fun q => ⟨Stable.refl _, h.1 q⟩, fun q => ?_⟩) (fun h => ⟨h.1, h.2.1, h.2.2.1, fun b c hb hc => ⟨Stable.cons hb, h.2.2.2 b c hb hc⟩⟩)⟩
          have h2 := h.2 q
          split at h2
          · exact h2
          · exact fun b e c hb => ⟨Stable.cons hb, h2 b e c hb⟩
          · rename_i s b0 e0 c0 heq0 heq1
            refine ⟨h2.1, fun b e c hb => ⟨fun b' o' g1 g2 => ?_, h2.2 b e c hb⟩⟩
            have hne0 : b' ≠ b0 := by intro q2; subst q2; rw [h2.1.2] at g1; cases g1; exact g2 _ _ rfl
            have hneb : b ≠ b' := by
              intro q2; subst q2
              rcases hb with hb | hb
              · rw [hb] at g1; cases g1
              · exact hne0 hb
            rw [hget_cons, if_neg hneb, hget_hdel_ne hne0]; exact g1
        · unfold appZ at h ⊢
          split at h
          · exact ⟨h.1, fun b c hb hc => ⟨Stable.cons hb, h.2 b c hb hc⟩⟩
          · exact h
        · exact h
      · split at h
        · obtain ⟨h1, cs, h2, h3, h4, h5, h6⟩ := h
          exact ⟨h1, cs, h2, h3, h4, fun q => ⟨Stable.refl _, h5 q⟩, fun q b' c hb hc => ⟨Stable.cons hb, h6 q b' c hb hc⟩⟩
        · exact h
      · exact h
    · exact h
  · split at h
    · split at h
      · exact ⟨h.1, fun b hb => ⟨Stable.cons hb, h.2 b hb⟩⟩
      · exact h
    · exact h
  · exact fun b hb => ⟨Stable.cons hb, h b hb⟩
  · simp [mildOp] at hm
  · simp [mildOp] at hm
  · simp [mildOp] at hm
  · simp [mildOp] at hm
  · exact h
theorem stepV_mild {op : Op} {K : Kv} (hm : mildOp op = true) (h : stepV P f G op K) : stepV P f G op (fun x G' => Stable G G' ∧ K x G') := by
  unfold stepV at h ⊢
  split at h
  · exact ⟨h.1, Stable.refl _, h.2⟩
  · exact fx_mild hm h
end
end Go.Proofs.YtclmcpbanaojfaaV

/-
  Regions that draw their order: one walk serves every order.
-/
namespace Go.Proofs.YtclmcpbanaojfaaV
open Go.RowKit
set_option linter.unusedVariables false
set_option linter.unusedSimpArgs false

/-- An operation as an order meets it: 'q': it is known to answer without writing. -/
def sem (P : Program) (q : Bool) (f : FF) (G : Heap) (op : Op) (K : Kv) : Prop := if q then ∃ x, QEv P f G op x ∧ K x G else stepV P f G op K
/-- The same under a guard. -/
def gs (P : Program) (q g : Bool) (f : FF) (G : Heap) (op : Op) (K : Kv) : Prop := if q then ∃ x, (g = true → QEv P (unF g f) G op x) ∧ K (.opt g x) G else gstep P g f G op K
def gsem (P : Program) (ops : Array Oper) (q : Bool) (o : Oper) (f : FF) (G : Heap) (K : Kv) : Prop :=
  match o.guard with
  | none => sem P q f G o.op K
  | some (j, want) => match (ops[j]?).bind (·.dst) with
    | some d => match (f d).bind (gcond want) with
      | some g => gs P q g f G o.op K
      | none => False
    | none => False
abbrev Kq := FF → Heap → Prop
def aOp (P : Program) (ops : Array Oper) (qs : Nat → Bool) (i : Nat) (K : Kq) (f : FF) (G : Heap) : Prop :=
  match ops[i]? with
  | none => K f G
  | some o => gsem P ops (qs i) o f G (fun x G' => K (upd f o.dst x) G')
def anyA (P : Program) (ops : Array Oper) (qs : Nat → Bool) (K : Kq) : Nat → Array Bool → FF → Heap → Prop
  | 0, listed, f, G => Region.ready .any ops listed = [] ∧ K f G
  | n + 1, listed, f, G => (Region.ready .any ops listed = [] → K f G) ∧ ∀ i ∈ Region.ready .any ops listed, aOp P ops qs i (anyA P ops qs K n (listed.setIfInBounds i true)) f G

section
variable {P : Program} {ops : Array Oper} {qs : Nat → Bool} {N : Nat}
theorem sem_step {q : Bool} {f : FF} {G : Heap} {op : Op} {K : Kv} (h : sem P q f G op K) : stepV P f G op K := by
  unfold sem at h
  split at h
  · obtain ⟨x, h1, h2⟩ := h; exact h1.step h2
  · exact h
theorem gs_true {q : Bool} {f : FF} {G : Heap} {op : Op} {K : Kv} (h : gs P q true f G op K) : stepV P (unF true f) G op (fun x G => K (.opt true x) G) := by
  unfold gs at h
  split at h
  · obtain ⟨x, h1, h2⟩ := h; exact (h1 rfl).step h2
  · exact gstep_true h
theorem gs_false {q : Bool} {f : FF} {G : Heap} {op : Op} {K : Kv} (h : gs P q false f G op K) : ∃ x, K (.opt false x) G := by
  unfold gs at h
  split at h
  · obtain ⟨x, h1, h2⟩ := h; exact ⟨x, h2⟩
  · exact gstep_false h
theorem anyA_ok {E : Env} {Q' : Exit → Act → World → Prop} {K : Kq} (ha : ∀ (i : Nat) (o : Oper), ops[i]? = some o → dstOk N o = true) : ∀ {n : Nat} {listed : Array Bool} {f : FF} {G : Heap} {M : PM} {w : World} {a : Act},
    anyA P ops qs K n listed f G → Mem E M G w → RepG M f a.tmps → a.tmps.size = N → a.defers = [] →
    (∀ M' f' G' (a' : Act) w', M.le M' → Mem E M' G' w' → RepG M' f' a'.tmps → a'.tmps.size = N → a'.defers = [] → K f' G' → Q' .normal a' w') → wpAny P .any ops Q' n listed a w
  | 0, listed, f, G, M, w, a, h, hm, hf, hn, hd, hq => ⟨h.1, hq M f G a w M.le_refl hm hf hn hd h.2⟩
  | n + 1, listed, f, G, M, w, a, h, hm, hf, hn, hd, hq => by
    refine ⟨fun h0 => hq M f G a w M.le_refl hm hf hn hd (h.1 h0), fun i hi => ?_⟩
    have hop := h.2 i hi
    unfold aOp at hop
    unfold wpOp
    cases ho : ops[i]? with
    | none =>
      rw [ho] at hop
      exact anyA_ok ha hop hm hf hn hd hq
    | some o =>
      rw [ho] at hop
      simp only at hop ⊢
      have hdst := ha i o ho
      unfold gsem at hop
      cases hg : o.guard with
      | none =>
        rw [hg] at hop
        rw [if_pos (by simp [Region.wanted, hg])]
        exact .inl (stepV_ok (N := N) (sem_step hop) hm hf hf hn hd hdst fun M' x G' a' w' k1 k2 k3 k4 k5 k6 =>
          anyA_ok ha k6 k2 k3 k4 k5 fun M2 f2 G2 a2 w2 j1 j2 j3 j4 j5 j6 => hq M2 f2 G2 a2 w2 (PM.le_trans k1 j1) j2 j3 j4 j5 j6)
      | some jw =>
        obtain ⟨j, want⟩ := jw
        rw [hg] at hop
        simp only at hop
        split at hop
        · rename_i d hgt
          split at hop
          · rename_i g hv
            have hw : Region.wanted o (yielded ops a.tmps) = g := by
              have := wanted_of (ops := ops.toList) hf hg (by unfold gtmp; simpa using hgt) hv
              simpa using this
            rw [hw]
            cases g with
            | true =>
              rw [if_pos rfl]
              exact .inl (stepV_ok (N := N) (gs_true hop) hm (unF_rep hf) hf hn hd hdst fun M' x G' a' w' k1 k2 k3 k4 k5 k6 =>
                anyA_ok ha k6 k2 k3.optT k4 k5 fun M2 f2 G2 a2 w2 j1 j2 j3 j4 j5 j6 => hq M2 f2 G2 a2 w2 (PM.le_trans k1 j1) j2 j3 j4 j5 j6)
            | false =>
              rw [if_neg (by simp)]
              obtain ⟨x, h2⟩ := gs_false hop
              obtain ⟨q1, q2, q3⟩ := put_frame hf hn hd hdst (Rep.optF (M := M) x)
              exact anyA_ok ha h2 hm q1 q2 q3 hq
          · exact hop.elim
        · exact hop.elim

/-- What an operation answers, without writing, guard and all. -/
def Ans1 (P : Program) (ops : Array Oper) (o : Oper) (f : FF) (G : Heap) (x : V) : Prop :=
  match o.guard with
  | none => QEv P f G o.op x
  | some (j, want) => match (ops[j]?).bind (·.dst) with
    | some d => match (f d).bind (gcond want) with
      | some g => ∃ y, x = .opt g y ∧ (g = true → QEv P (unF g f) G o.op y)
      | none => False
    | none => False
theorem looks_op {o : Oper} {d : Tmp} (h : d ∉ o.looksAt ops) {f f' : FF} (hf : ∀ t, t ≠ d → f t = f' t) : ∀ y ∈ o.op.operands, ev f y = ev f' y := by
  intro y hy
  refine ev_congr fun t ht => ?_
  subst ht
  refine hf t ?_
  intro e; subst e
  exact h (List.mem_append_left _ (List.mem_filterMap.2 ⟨.tmp t, by simpa using hy, rfl⟩))
theorem upd_ne {f : FF} {d t : Tmp} {x : V} (h : t ≠ d) : f t = upd f (some d) x t := by
  show f t = if d = t then some x else f t
  rw [if_neg (Ne.symm h)]
theorem unF_ne {g : Bool} {f : FF} {d t : Tmp} {x : V} (h : t ≠ d) : unF g f t = unF g (upd f (some d) x) t := by
  unfold unF
  rw [← upd_ne h]
theorem looks_guard {o : Oper} {d : Tmp} (h : d ∉ o.looksAt ops) {f : FF} {x : V} {j : Nat} {want : Bool} {t : Tmp} (hg : o.guard = some (j, want)) (ht : (ops[j]?).bind (·.dst) = some t) : upd f (some d) x t = f t := by
  unfold upd
  simp only
  rw [if_neg]
  intro e; subst e
  exact h (List.mem_append_right _ (by rw [hg]; simp only; rw [ht]; simp))
theorem Ans1.put {o : Oper} {f : FF} {G : Heap} {x y : V} {dst : Option Tmp} (h : Ans1 P ops o f G x) (hd : ∀ d, dst = some d → d ∉ o.looksAt ops) : Ans1 P ops o (upd f dst y) G x := by
  cases dst with
  | none => exact h
  | some d =>
    have hn := hd d rfl
    unfold Ans1 at h ⊢
    cases hg : o.guard with
    | none => rw [hg] at h; exact QEv.congr h (looks_op hn fun t ht => upd_ne ht)
    | some jw =>
      obtain ⟨j, want⟩ := jw
      rw [hg] at h
      simp only at h ⊢
      cases ht : (ops[j]?).bind (·.dst) with
      | none => rw [ht] at h; exact h
      | some t =>
        rw [ht] at h
        simp only at h ⊢
        rw [looks_guard hn hg ht]
        split at h
        · rename_i g hv
          obtain ⟨z, h1, h2⟩ := h
          exact ⟨z, h1, fun e => QEv.congr (h2 e) (looks_op hn fun t ht => unF_ne ht)⟩
        · exact h.elim
theorem Ans1.heap {o : Oper} {f : FF} {G G' : Heap} {x : V} (h : Ans1 P ops o f G x) (hq : ∀ f x, QEv P f G o.op x → QEv P f G' o.op x) : Ans1 P ops o f G' x := by
  unfold Ans1 at h ⊢
  split at h
  · exact hq _ _ h
  · split at h
    · split at h
      · obtain ⟨z, h1, h2⟩ := h
        exact ⟨z, h1, fun e => hq _ _ (h2 e)⟩
      · exact h.elim
    · exact h.elim
theorem Ans1.aOp {i : Nat} {o : Oper} (hi : ops[i]? = some o) {f : FF} {G : Heap} {x : V} (hq : qs i = true) (h : Ans1 P ops o f G x) {K : Kq} (hk : K (upd f o.dst x) G) : aOp P ops qs i K f G := by
  unfold Go.Proofs.YtclmcpbanaojfaaV.aOp gsem
  rw [hi]
  unfold Ans1 at h
  simp only
  split at h
  · simp only [sem, hq, if_true]; exact ⟨x, h, hk⟩
  · split at h
    · split at h
      · obtain ⟨z, rfl, h2⟩ := h
        simp only [gs, hq, if_true]
        exact ⟨z, h2, hk⟩
      · exact h.elim
    · exact h.elim
theorem gstep_mono {g : Bool} {f : FF} {G : Heap} {op : Op} {K K' : Kv} (hk : ∀ x G, K x G → K' x G) (h : gstep P g f G op K) : gstep P g f G op K' := by
  unfold gstep at h ⊢
  split at h
  · exact ⟨h.1, hk _ _ h.2⟩
  · exact ⟨fun e => fx_mono (fun x G => hk _ _) (h.1 e), fun e => (h.2 e).elim fun x hx => ⟨x, hk _ _ hx⟩⟩
theorem gs_mono {q g : Bool} {f : FF} {G : Heap} {op : Op} {K K' : Kv} (hk : ∀ x G, K x G → K' x G) (h : gs P q g f G op K) : gs P q g f G op K' := by
  unfold gs at h ⊢
  cases q with
  | true => obtain ⟨x, h1, h2⟩ := h; exact ⟨x, h1, hk _ _ h2⟩
  | false => exact gstep_mono hk h
theorem sem_mono {q : Bool} {f : FF} {G : Heap} {op : Op} {K K' : Kv} (hk : ∀ x G, K x G → K' x G) (h : sem P q f G op K) : sem P q f G op K' := by
  unfold sem at h ⊢
  cases q with
  | true => obtain ⟨x, h1, h2⟩ := h; exact ⟨x, h1, hk _ _ h2⟩
  | false => exact stepV_mono hk h
theorem gsem_mono {q : Bool} {o : Oper} {f : FF} {G : Heap} {K K' : Kv} (hk : ∀ x G, K x G → K' x G) (h : gsem P ops q o f G K) : gsem P ops q o f G K' := by
  unfold gsem at h ⊢
  split at h
  · exact sem_mono hk h
  · split at h
    · split at h
      · exact gs_mono hk h
      · exact h.elim
    · exact h.elim
theorem aOp_mono {i : Nat} {K K' : Kq} {f : FF} {G : Heap} (hk : ∀ f G, K f G → K' f G) (h : aOp P ops qs i K f G) : aOp P ops qs i K' f G := by
  unfold aOp at h ⊢
  split at h
  · exact hk _ _ h
  · exact gsem_mono (fun x G => hk _ _) h

/-- Two operations that may change places: one does not look at the heap, or the other leaves what it says alone. -/
def commB (qj : Bool) (oi oj : Oper) : Bool := pureOp oi.op || qj || mildOp oj.op
theorem upd_comm {f : FF} {x y : Option Tmp} {u v : V} (h : ∀ d, x = some d → y ≠ some d) : upd (upd f x u) y v = upd (upd f y v) x u := by
  cases x with
  | none => rfl
  | some d =>
    cases y with
    | none => rfl
    | some e =>
      have hne : d ≠ e := fun he => h d rfl (he ▸ rfl)
      funext t
      unfold upd
      simp only
      by_cases h1 : e = t
      · subst h1; rw [if_pos rfl, if_neg hne, if_pos rfl]
      · rw [if_neg h1]
        by_cases h2 : d = t
        · subst h2; simp
        · rw [if_neg h2, if_neg h2, if_neg h1]
theorem sem_comm {qj : Bool} {oi oj : Oper} {f f' : FF} {G : Heap} {x : V} {K : Kv} (hc : commB qj oi oj = true) (hcg : ∀ y ∈ oj.op.operands, ev f' y = ev f y) (hy : Ans1 P ops oi f G x) (h : sem P qj f' G oj.op K) :
    sem P qj f G oj.op (fun u G' => Ans1 P ops oi f G' x ∧ K u G') := by
  unfold sem at h ⊢
  cases qj with
  | true =>
    simp only [if_true] at h ⊢
    obtain ⟨u, h1, h2⟩ := h
    exact ⟨u, h1.congr hcg, hy, h2⟩
  | false =>
    simp only [Bool.false_eq_true, if_false] at h ⊢
    have h' := stepV_congr hcg h
    unfold commB at hc
    simp only [Bool.or_false, Bool.or_eq_true] at hc
    rcases hc with hp | hm
    · exact stepV_mono (fun u G' hk => ⟨hy.heap (fun f x hq => hq.pure hp G'), hk⟩) h'
    · exact stepV_mono (fun u G' hk => ⟨hy.heap (fun f x hq => hq.stable hk.1), hk.2⟩) (stepV_mild hm h')
theorem gs_comm {qj g : Bool} {oi oj : Oper} {f f' : FF} {G : Heap} {x : V} {K : Kv} (hc : commB qj oi oj = true) (hcg : ∀ y ∈ oj.op.operands, ev (unF g f') y = ev (unF g f) y) (hy : Ans1 P ops oi f G x) (h : gs P qj g f' G oj.op K) :
    gs P qj g f G oj.op (fun u G' => Ans1 P ops oi f G' x ∧ K u G') := by
  unfold gs at h ⊢
  cases qj with
  | true =>
    simp only [if_true] at h ⊢
    obtain ⟨u, h1, h2⟩ := h
    exact ⟨u, fun e => (h1 e).congr hcg, hy, h2⟩
  | false =>
    simp only [Bool.false_eq_true, if_false] at h ⊢
    unfold gstep at h ⊢
    rw [← qv_congr hcg]
    split at h
    · rename_i hq; exact ⟨h.1, hy, h.2⟩
    · rename_i hq
      refine ⟨fun e => ?_, fun e => (h.2 e).elim fun x hx => ⟨x, hy, hx⟩⟩
      have h1 : stepV P (unF g f) G oj.op (fun x G => K (.opt g x) G) := by
        unfold stepV
        rw [← qv_congr hcg, hq]
        exact fx_congr hcg (h.1 e)
      have h2 : stepV P (unF g f) G oj.op (fun u G' => Ans1 P ops oi f G' x ∧ K (.opt g u) G') := by
        unfold commB at hc
        simp only [Bool.or_false, Bool.or_eq_true] at hc
        rcases hc with hp | hm
        · exact stepV_mono (fun u G' hk => ⟨hy.heap (fun f x hq => hq.pure hp G'), hk⟩) h1
        · exact stepV_mono (fun u G' hk => ⟨hy.heap (fun f x hq => hq.stable hk.1), hk.2⟩) (stepV_mild hm h1)
      unfold stepV at h2
      rw [← qv_congr hcg, hq] at h2
      exact h2
theorem aOp_put {i j : Nat} {oi oj : Oper} {x : V} (hj : ops[j]? = some oj) (hap : oi.apart ops oj = true) (hc : commB (qs j) oi oj = true) {K : Kq} {f : FF} {G : Heap} (hy : Ans1 P ops oi f G x)
    (h : aOp P ops qs j K (upd f oi.dst x) G) : aOp P ops qs j (fun f' G' => Ans1 P ops oi f' G' x ∧ K (upd f' oi.dst x) G') f G := by
  obtain ⟨h1, h2, h3⟩ := Oper.apart_spec hap
  unfold aOp at h ⊢
  rw [hj] at h ⊢
  simp only at h ⊢
  have hcg : ∀ y ∈ oj.op.operands, ev (upd f oi.dst x) y = ev f y := fun y hy' => by
    cases hd : oi.dst with
    | none => rfl
    | some d => exact (looks_op (h1 d hd) (fun t ht => upd_ne ht) y hy').symm
  have hcg2 : ∀ g, ∀ y ∈ oj.op.operands, ev (unF g (upd f oi.dst x)) y = ev (unF g f) y := fun g y hy' => by
    cases hd : oi.dst with
    | none => rfl
    | some d => exact (looks_op (h1 d hd) (fun t ht => unF_ne ht) y hy').symm
  have hput : ∀ (u : V) (G' : Heap), Ans1 P ops oi f G' x ∧ K (upd (upd f oi.dst x) oj.dst u) G' → Ans1 P ops oi (upd f oj.dst u) G' x ∧ K (upd (upd f oj.dst u) oi.dst x) G' := fun u G' h => ⟨h.1.put h3, by rw [← upd_comm h2]; exact h.2⟩
  refine gsem_mono hput ?_
  unfold gsem at h ⊢
  cases hg : oj.guard with
  | none => rw [hg] at h; exact sem_comm hc hcg hy h
  | some jw =>
    obtain ⟨k, want⟩ := jw
    rw [hg] at h
    simp only at h ⊢
    cases ht : (ops[k]?).bind (·.dst) with
    | none => rw [ht] at h; exact h
    | some t =>
      rw [ht] at h
      simp only at h ⊢
      have hgd : upd f oi.dst x t = f t := by
        cases hd : oi.dst with
        | none => rfl
        | some d => exact looks_guard (h1 d hd) hg ht
      rw [hgd] at h
      split at h
      · exact gs_comm hc (hcg2 _) hy h
      · exact h.elim

theorem anyA_first {K : Kq} {i : Nat} {oi : Oper} {x : V} (hi : ops[i]? = some oi) (hqi : qs i = true) : ∀ (n : Nat) (listed : Array Bool) (f : FF) (G : Heap),
    (∀ j oj, ops[j]? = some oj → j ≠ i → listed.getD j true = false → (∀ e ∈ oj.after, Region.binds .any e = true → e.on ≠ i) → oi.apart ops oj = true ∧ commB (qs j) oi oj = true) →
    i ∈ Region.ready .any ops listed → Ans1 P ops oi f G x → anyA P ops qs K n (listed.setIfInBounds i true) (upd f oi.dst x) G → anyA P ops qs K (n + 1) listed f G := by
  intro n
  induction n with
  | zero =>
    intro listed f G _ hr hy H
    refine ⟨fun h => (by rw [h] at hr; cases hr), fun j hj => ?_⟩
    by_cases hji : j = i
    · subst hji; exact hy.aOp hi hqi H
    · have := ready_mono hj hji
      rw [H.1] at this
      cases this
  | succ n ih =>
    intro listed f G hfree hr hy H
    refine ⟨fun h => (by rw [h] at hr; cases hr), fun j hj => ?_⟩
    by_cases hji : j = i
    · subst hji; exact hy.aOp hi hqi H
    · have h1 := H.2 j (ready_mono hj hji)
      obtain ⟨hjun, oj, hoj, hall⟩ := mem_ready.1 hj
      have hnot : ∀ e ∈ oj.after, Region.binds .any e = true → e.on ≠ i := fun e he hb heq => by
        have h1 := hall e he hb
        have h0 := (mem_ready.1 hr).1
        rw [heq] at h1
        rcases Nat.lt_or_ge i listed.size with h' | h'
        · simp [h'] at h0 h1; rw [h0] at h1; cases h1
        · simp [Array.getElem?_eq_none h'] at h1
      obtain ⟨hap, hcm⟩ := hfree j oj hoj hji hjun hnot
      have h2 := aOp_put (i := i) hoj hap hcm hy h1
      have hfree' : ∀ k ok, ops[k]? = some ok → k ≠ i → (listed.setIfInBounds j true).getD k true = false → (∀ e ∈ ok.after, Region.binds .any e = true → e.on ≠ i) → oi.apart ops ok = true ∧ commB (qs k) oi ok = true := fun k ok hk hki hun hno => by
        refine hfree k ok hk hki ?_ hno
        by_cases hjk : j = k
        · subst hjk; exact hjun
        · rw [getD_set_ne true hjk] at hun; exact hun
      refine aOp_mono (fun f' G' h3 => ih (listed.setIfInBounds j true) f' G' hfree' (ready_mono hr (Ne.symm hji)) h3.1 ?_) h2
      rw [Array.setIfInBounds_comm _ _ hji]
      exact h3.2
end

/-! ### the order that is walked, and that it serves -/
def qOf (σ : List (Nat × Bool)) (i : Nat) : Bool := match σ with | [] => false | (j, q) :: σ => if j = i then q else qOf σ i
def freeB (ops : Array Oper) (qs : Nat → Bool) (listed : Array Bool) (i : Nat) : Bool :=
  match ops[i]? with
  | none => false
  | some oi => (List.range ops.size).all fun j => j == i || listed.getD j true || match ops[j]? with
      | some oj => oj.after.any (fun e => Region.binds .any e && e.on == i) || (oi.apart ops oj && commB (qs j) oi oj)
      | none => true
def ordFrom (ops : Array Oper) (qs : Nat → Bool) : List (Nat × Bool) → Array Bool → Bool
  | [], listed => (Region.ready .any ops listed).isEmpty
  | (i, q) :: σ, listed => (Region.ready .any ops listed).contains i && (qs i == q) && (if q then freeB ops qs listed i else Region.ready .any ops listed == [i]) && ordFrom ops qs σ (listed.setIfInBounds i true)
def ordOk (ops : Array Oper) (σ : List (Nat × Bool)) : Bool := (σ.length == ops.size) && ordFrom ops (qOf σ) σ (Array.replicate ops.size false)

/-- The walk in that order. -/
def quietK (P : Program) (f : FF) (G : Heap) (op : Op) (K : Kv) : Prop :=
  match qv P f G op with
  | some (C, x) => C ∧ K x G
  | none => match op with
    | .call { callee := .value c, args := as_, argTypes := _ } => match callee f c, evL f as_.toList with
      | some (g, xs, ys), some zs => ∃ x, QOn P G g (xs ++ zs ++ ys) x ∧ K x G
      | _, _ => False
    | _ => False
def semK (P : Program) (q : Bool) (f : FF) (G : Heap) (op : Op) (K : Kv) : Prop := match q with | true => quietK P f G op K | false => stepV P f G op K
/-- The same under a guard. -/
def quietG (P : Program) (g : Bool) (f : FF) (G : Heap) (op : Op) (K : Kv) : Prop :=
  match qv P (unF g f) G op with
  | some (C, x) => (g = true → C) ∧ K (.opt g x) G
  | none => match op with
    | .call { callee := .value c, args := as_, argTypes := _ } => match callee (unF g f) c, evL (unF g f) as_.toList with
      | some (h, xs, ys), some zs => ∃ x, (g = true → QOn P G h (xs ++ zs ++ ys) x) ∧ K (.opt g x) G
      | _, _ => g = false ∧ K (.opt g .any) G
    | _ => g = false ∧ K (.opt g .any) G
def semG (P : Program) (q g : Bool) (f : FF) (G : Heap) (op : Op) (K : Kv) : Prop := match q with | true => quietG P g f G op K | false => gstep P g f G op K
def rgD (P : Program) (ops : List Oper) : List (Nat × Bool) → Frame → Heap → Kf → Prop
  | [], f, G, K => K f G
  | (i, q) :: σ, f, G, K => match ops[i]? with
    | none => False
    | some o => match o.guard with
      | none => semK P q (fget f) G o.op (fun x G => rgD P ops σ (fput f o.dst x) G K)
      | some (j, want) => match gtmp ops j with
        | some d => match (fget f d).bind (gcond want) with
          | some g => semG P q g (fget f) G o.op (fun x G => rgD P ops σ (fput f o.dst x) G K)
          | none => False
        | none => False
section
variable {P : Program} {N : Nat} {Q : Cont} {f : Frame} {G : Heap}
theorem quietK_ev {f : FF} {G : Heap} {op : Op} {K : Kv} (h : quietK P f G op K) : ∃ x, QEv P f G op x ∧ K x G := by
  unfold quietK at h
  split at h
  · rename_i C x hq; exact ⟨x, .inl ⟨C, hq, h.1⟩, h.2⟩
  · split at h
    · split at h
      · rename_i g xs ys zs hc hz
        obtain ⟨x, h1, h2⟩ := h
        exact ⟨x, .inr ⟨_, _, _, g, xs, ys, zs, rfl, hc, hz, h1⟩, h2⟩
      · exact h.elim
    · exact h.elim
theorem quietG_ev {g : Bool} {f : FF} {G : Heap} {op : Op} {K : Kv} (h : quietG P g f G op K) : ∃ x, (g = true → QEv P (unF g f) G op x) ∧ K (.opt g x) G := by
  unfold quietG at h
  split at h
  · rename_i C x hq; exact ⟨x, fun e => .inl ⟨C, hq, h.1 e⟩, h.2⟩
  · split at h
    · split at h
      · rename_i g xs ys zs hc hz
        obtain ⟨x, h1, h2⟩ := h
        exact ⟨x, fun e => .inr ⟨_, _, _, g, xs, ys, zs, rfl, hc, hz, h1 e⟩, h2⟩
      · exact ⟨.any, fun e => (by rw [h.1] at e; cases e), h.2⟩
    · exact ⟨.any, fun e => (by rw [h.1] at e; cases e), h.2⟩
theorem rgD_any {ops : List Oper} {qs : Nat → Bool} {K : Kf} : ∀ {σ : List (Nat × Bool)} {listed : Array Bool} {f : Frame} {G : Heap}, ordFrom ops.toArray qs σ listed = true → rgD P ops σ f G K →
    anyA P ops.toArray qs (fun φ G => ∃ f : Frame, fget f = φ ∧ K f G) σ.length listed (fget f) G
  | [], listed, f, G, ho, h => ⟨by simpa [ordFrom] using ho, f, rfl, h⟩
  | (i, q) :: σ, listed, f, G, ho, h => by
    simp only [ordFrom, Bool.and_eq_true, beq_iff_eq] at ho
    obtain ⟨⟨⟨hr, hqs⟩, hcase⟩, hrest⟩ := ho
    have hr' : i ∈ Region.ready .any ops.toArray listed := by simpa using hr
    unfold rgD at h
    cases ho' : ops[i]? with
    | none => rw [ho'] at h; exact h.elim
    | some o =>
      rw [ho'] at h
      simp only at h
      have hoA : ops.toArray[i]? = some o := by simpa using ho'
      have hrest' : ∀ x G', rgD P ops σ (fput f o.dst x) G' K → anyA P ops.toArray qs (fun φ G => ∃ f : Frame, fget f = φ ∧ K f G) σ.length (listed.setIfInBounds i true) (upd (fget f) o.dst x) G' := fun x G' hk => by
        have := rgD_any hrest hk
        rw [fget_fput] at this; exact this
      cases q with
      | true =>
        simp only [if_true] at hcase
        have hfree : ∀ j oj, ops.toArray[j]? = some oj → j ≠ i → listed.getD j true = false → (∀ e ∈ oj.after, Region.binds .any e = true → e.on ≠ i) → o.apart ops.toArray oj = true ∧ commB (qs j) o oj = true := by
          intro j oj hj hne hun hno
          simp only [freeB, hoA, List.all_eq_true, List.mem_range] at hcase
          have h1 := hcase j (Array.getElem?_eq_some_iff.1 hj).1
          simp only [hj, Bool.or_eq_true, beq_iff_eq, hne, false_or, hun, Bool.false_eq_true, Bool.and_eq_true] at h1
          rcases h1 with h1 | h1
          · obtain ⟨e, he, hb⟩ := Array.any_eq_true'.1 h1
            simp only [Bool.and_eq_true, beq_iff_eq] at hb
            exact absurd hb.2 (hno e he hb.1)
          · exact h1
        cases hg : o.guard with
        | none =>
          rw [hg] at h
          have h : quietK P (fget f) G o.op (fun x G => rgD P ops σ (fput f o.dst x) G K) := h
          obtain ⟨x, h1, h2⟩ := quietK_ev h
          refine anyA_first hoA hqs σ.length listed (fget f) G hfree hr' (x := x) ?_ (hrest' _ _ h2)
          unfold Ans1; rw [hg]; exact h1
        | some jw =>
          obtain ⟨j, want⟩ := jw
          rw [hg] at h
          simp only at h
          split at h
          · rename_i d hgt
            have hgtA : (ops.toArray[j]?).bind (·.dst) = some d := by unfold gtmp at hgt; simpa using hgt
            split at h
            · rename_i g hb
              have h : quietG P g (fget f) G o.op (fun x G => rgD P ops σ (fput f o.dst x) G K) := h
              obtain ⟨x, h1, h2⟩ := quietG_ev h
              refine anyA_first hoA hqs σ.length listed (fget f) G hfree hr' (x := .opt g x) ?_ (hrest' _ _ h2)
              unfold Ans1; rw [hg]; simp only; rw [hgtA]; simp only; rw [hb]; exact ⟨x, rfl, h1⟩
            · exact h.elim
          · exact h.elim
      | false =>
        simp only [Bool.false_eq_true, if_false, beq_iff_eq] at hcase
        refine ⟨fun h0 => (by rw [h0] at hr'; cases hr'), fun k hk => ?_⟩
        have hki : k = i := by rw [hcase] at hk; simpa using hk
        subst hki
        unfold aOp
        rw [hoA]
        refine gsem_mono (fun x G' hk => hrest' x G' hk) ?_
        unfold gsem
        cases hg : o.guard with
        | none =>
          rw [hg] at h
          simp only [sem, hqs, Bool.false_eq_true, if_false]
          exact h
        | some jw =>
          obtain ⟨j, want⟩ := jw
          rw [hg] at h
          simp only at h ⊢
          split at h
          · rename_i d hgt
            have hgtA : (ops.toArray[j]?).bind (·.dst) = some d := by unfold gtmp at hgt; simpa using hgt
            rw [hgtA]
            simp only
            split at h
            · rename_i g hb
              try simp only [hb]
              simp only [gs, hqs, Bool.false_eq_true, if_false]
              exact h
            · exact h.elim
          · exact h.elim
theorem aw_region_draw {id : Nat} {ops : List Oper} (σ : List (Nat × Bool)) (hmx : P.follows .mixedOrders = true) (hd : ops.all (dstOk N) = true) (ho : ordOk ops.toArray σ = true) (h : rgD P ops σ f G (fun f G => Q .normal f G)) : AW P N (.region id ops.toArray true) Q f G := by
  intro E M w a hm hr hn hdf
  simp only [ordOk, Bool.and_eq_true, beq_iff_eq] at ho
  have hany := rgD_any ho.2 h
  refine wp_region_any hmx ?_
  rw [← ho.1]
  refine anyA_ok (N := N) (E := E) (M := M) (fun i o hi => ?_) (by rw [ho.1]; rw [ho.1] at hany; exact hany) hm.drew hr hn hdf fun M' f' G' a' w' k1 k2 k3 k4 k5 k6 => ?_
  · have := List.all_eq_true.1 hd o (by simp at hi; exact List.mem_of_getElem? hi)
    exact this
  · obtain ⟨f2, rfl, hq⟩ := k6
    exact ⟨M', f2, G', k1, k2, k3, k4, k5, hq⟩
end
end Go.Proofs.YtclmcpbanaojfaaV
