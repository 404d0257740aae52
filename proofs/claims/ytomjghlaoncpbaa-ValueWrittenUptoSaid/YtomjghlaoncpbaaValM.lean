import Derived.Test.YtomjghlaoncpbaaValL
set_option linter.unusedSimpArgs false
set_option linter.unusedVariables false
namespace Go.Proofs.Ytomjghlaoncpbaa
open Go.Proofs.YtomjghlaoncpbaaV
set_option maxHeartbeats 400000
set_option maxRecDepth 100000
mutual
/-- A value as bytes. -/
def encV : Val → List UInt8 | .mk k n t ar _ => u8 k :: (natB (numN n) ++ (textB t ++ (natB ar.length ++ encVs ar)))
def encVs : List Val → List UInt8 | [] => [] | v :: vs => encV v ++ encVs vs
end
theorem encV_eq (v : Val) : encV v = u8 v.kind :: (natB (numN v.num) ++ (textB v.text ++ (natB v.args.length ++ encVs v.args))) := by cases v; rw [encV]; rfl
theorem encVs_append : ∀ a b, encVs (a ++ b) = encVs a ++ encVs b
  | [], b => rfl
  | v :: a, b => by rw [List.cons_append, encVs, encVs, encVs_append a b, List.append_assoc]
theorem encVs_succ {l : List Val} {i : Nat} (h : i < l.length) : encVs (l.take (i + 1)) = encVs (l.take i) ++ encV l[i] := by
  rw [List.take_succ_eq_append_getElem h, encVs_append]; simp [encVs]
theorem encVs_take_len (l : List Val) (i : Nat) : (encVs (l.take i)).length ≤ (encVs l).length := by
  have := encVs_append (l.take i) (l.drop i)
  rw [List.take_append_drop] at this
  rw [this, List.length_append]; omega
theorem one_u8 (n : Int) : [[V.int .u8 (IntKind.u8.wrap n)]] = bytesV [u8 n] := by simp only [bytesV, List.map_cons, List.map_nil, u8_cast]
def CallV (n : Nat) : Prop := ∀ (base : Heap) (bw : Nat) (v : Val) (out : List UInt8) (G : Heap), v.sz ≤ n → OkVal v → (out ++ encV v).length ≤ 1099511627776 → WOk base bw 1 (bytesV out) G →
    ACall Try.prog 105 [.ptr bw 0, .agg (cV v)] (fun _ G' => WOk base bw 1 (bytesV (out ++ encV v)) G') G
theorem a_values0 {n : Nat} (ih : CallV n) (base : Heap) (bw : Nat) (l : List Val) (nl : Bool) (t : Tag) (out : List UInt8) (G : Heap) (hn : ∀ v ∈ l, v.sz ≤ n) (ho : ∀ v ∈ l, OkVal v) (hll : l.length ≤ bulk) (hl : (out ++ (natB l.length ++ encVs l)).length ≤ 1099511627776) (hG : WOk base bw 1 (bytesV out) G) :
    ACall Try.prog 145 [.ptr bw 0, .sl (l.map eVal) nl t] (fun _ G' => WOk base bw 1 (bytesV (out ++ (natB l.length ++ encVs l))) G') G := by
  have hll' : l.length ≤ 1048576 := hll
  have hl' : out.length + ((natB l.length).length + (encVs l).length) ≤ 1099511627776 := by simpa using hl
  refine acall_body (rs := []) Try.func145 rfl rfl Try.ntmps145 (by kernel_rfl) (Nat.le_of_ble_eq_true rfl) ?_
  refine aw_sr rfl ?_
  simp only [go_sem, reduceIte, Nat.reduceEqDiff, Nat.reduceAdd, Nat.reduceMul, Nat.reduceSub, Nat.reduceLeDiff, Nat.reduceLT, reduceCtorEq, wrapN (by omega : l.length < 2 ^ 64)]
  refine goA_by (a_natural base bw _ out G (by omega) (by rw [List.length_append]; omega) hG) fun y G' h => ?_
  simp only [go_sem, reduceIte, Nat.reduceEqDiff, Nat.reduceAdd, Nat.reduceMul, Nat.reduceSub, Nat.reduceLeDiff, Nat.reduceLT, reduceCtorEq]
  refine aw_sr rfl ?_
  simp only [go_sem, reduceIte, Nat.reduceEqDiff, Nat.reduceAdd, Nat.reduceMul, Nat.reduceSub, Nat.reduceLeDiff, Nat.reduceLT, reduceCtorEq]
  refine aw_range l.length (S := Heap) (fun _ _ => [(11, .sl (l.map eVal) nl t), (0, .ptr bw 0)]) (fun _ H => H) (fun i H => WOk base bw 1 (bytesV (out ++ (natB l.length ++ encVs (l.take i)))) H) G' (by omega) ?_ (fun _ _ h => h) ?_ rfl (fun _ _ => rfl) ?_ ?_ (by decide)
  · simp only [go_sem, reduceIte, Nat.reduceEqDiff, Nat.reduceAdd, Nat.reduceMul, Nat.reduceSub, Nat.reduceLeDiff, Nat.reduceLT, reduceCtorEq, Int.natCast_zero]
  · rw [List.take_zero, encVs, List.append_nil]; exact h
  · intro i H hi he
    have hlen := encVs_take_len l (i + 1)
    rw [encVs_succ hi, List.length_append] at hlen
    refine aw_sr rfl ?_
    simp only [go_sem, reduceIte, Nat.reduceEqDiff, Nat.reduceAdd, Nat.reduceMul, Nat.reduceSub, Nat.reduceLeDiff, Nat.reduceLT, reduceCtorEq, getD_map hi, eC, cV]
    refine ⟨⟨by omega, by omega, wid_eVal _⟩, fun b5 hb5 => ?_⟩
    have hp := he.push (o := .vars (cV l[i])) hb5
    refine aw_rg rfl ?_
    simp only [go_sem, reduceIte, Nat.reduceEqDiff, Nat.reduceAdd, Nat.reduceMul, Nat.reduceSub, Nat.reduceLeDiff, Nat.reduceLT, reduceCtorEq]
    refine goA_by (ih _ bw l[i] _ _ (hn _ (List.getElem_mem hi)) (ho _ (List.getElem_mem hi)) (by simp only [List.length_append]; omega) hp) fun y2 G2 h2 => ?_
    simp only [go_sem, reduceIte, Nat.reduceEqDiff, Nat.reduceAdd, Nat.reduceMul, Nat.reduceSub, Nat.reduceLeDiff, Nat.reduceLT, reduceCtorEq]
    refine ⟨G2, ?_, ?_, fun _ _ h => h⟩
    · have hb := h2.base (sub_tail (sub_none he.old hb5))
      rw [encVs_succ hi]
      simpa [List.append_assoc] using hb
    · simp only [go_sem, reduceIte, Nat.reduceEqDiff, Nat.reduceAdd, Nat.reduceMul, Nat.reduceSub, Nat.reduceLeDiff, Nat.reduceLT, reduceCtorEq]
  · intro H he
    rw [List.take_length] at he
    exact ⟨trivial, [], rfl, he⟩
theorem a_value0 : ∀ n, CallV n := by
  intro n
  induction n with
  | zero => intro base bw v out G h; have := v.sz_eq; omega
  | succ n ih =>
    intro base bw v out G hsz ho hl hG
    have hle := encV_eq v
    have hl' : out.length + (1 + ((natB (numN v.num)).length + ((textB v.text).length + ((natB v.args.length).length + (encVs v.args).length)))) ≤ 1099511627776 := by
      have := hl
      rw [hle] at this
      simp only [List.length_append, List.length_cons] at this
      omega
    have htx : v.text.length ≤ 1048576 := ho.text
    refine acall_body (rs := []) Try.func105 rfl rfl Try.ntmps105 (by kernel_rfl) (Nat.le_of_ble_eq_true rfl) ?_
    refine aw_sr rfl ?_
    simp only [go_sem, reduceIte, Nat.reduceEqDiff, Nat.reduceAdd, Nat.reduceMul, Nat.reduceSub, Nat.reduceLeDiff, Nat.reduceLT, reduceCtorEq]
    intro b3 hb3
    have hp := hG.push (o := .vars (cV v)) hb3
    have hb3b := sub_none hG.old hb3
    obtain ⟨h0, nl, t, H, hnl, hr, hsb⟩ := hp
    refine AW.of_hsub hsb ?_
    have hgw : hget H bw = some (.vars [.sl (bytesV out) nl t]) := hr.sub _ _ (hget_self _ _ _)
    obtain ⟨n3w, _⟩ := none_cons h0
    have hg3 : hget H b3 = some (.vars (cV v)) := hr.sub _ _ (by rw [hget_cons_ne (fun e => n3w e.symm), hget_self])
    refine aw_srd [(0,true),(1,true),(2,true),(3,true),(4,true),(5,true),(6,true),(7,true),(8,true),(9,false),(10,true),(11,true),(12,false)] mixed rfl (by kernel_rfl) ?_
    simp only [go_sem, reduceIte, Nat.reduceEqDiff, Nat.reduceAdd, Nat.reduceMul, Nat.reduceSub, Nat.reduceLeDiff, Nat.reduceLT, reduceCtorEq, hgw, hg3, one_u8]
    refine goP_room hr ?_ fun t' H' hr' => ?_
    · exact ⟨rfl, rfl, by decide, wid_bytes _, wid_bytes _, sca_bytes _, by simp; omega, by simp; omega⟩
    have hgw' : hget H' bw = some (.vars [.sl (bytesV out) nl t]) := hr'.sub _ _ (hget_self _ _ _)
    simp only [go_sem, reduceIte, Nat.reduceEqDiff, Nat.reduceAdd, Nat.reduceMul, Nat.reduceSub, Nat.reduceLeDiff, Nat.reduceLT, reduceCtorEq, hgw']
    have w1 : WOk ((b3, .vars (cV v)) :: base) bw 1 (bytesV (out ++ [u8 v.kind])) (hset H' bw (.vars [.sl (bytesV (out ++ [u8 v.kind])) false t'])) := ⟨h0, _, t', _, (by simp), hr'.put, fun _ _ h => h⟩
    have key : ∀ {es : List (List V)} {G1 : Heap}, WOk ((b3, .vars (cV v)) :: base) bw 1 es G1 → hget G1 b3 = some (.vars (cV v)) := fun h => h.old _ _ (hget_self _ _ _)
    have g1 := key w1
    refine aw_sr rfl ?_
    simp only [go_sem, reduceIte, Nat.reduceEqDiff, Nat.reduceAdd, Nat.reduceMul, Nat.reduceSub, Nat.reduceLeDiff, Nat.reduceLT, reduceCtorEq, g1]
    refine goA_by (a_num _ bw v.num _ _ ho.num (by simp only [List.length_append, List.length_cons, List.length_nil]; omega) w1) fun y2 G2 w2 => ?_
    have g2 := key w2
    simp only [go_sem, reduceIte, Nat.reduceEqDiff, Nat.reduceAdd, Nat.reduceMul, Nat.reduceSub, Nat.reduceLeDiff, Nat.reduceLT, reduceCtorEq]
    refine aw_sr rfl ?_
    simp only [go_sem, reduceIte, Nat.reduceEqDiff, Nat.reduceAdd, Nat.reduceMul, Nat.reduceSub, Nat.reduceLeDiff, Nat.reduceLT, reduceCtorEq, g2]
    refine goA_by (a_text _ bw v.text _ _ (by omega) (by simp only [List.length_append, List.length_cons, List.length_nil]; omega) w2) fun y3 G3 w3 => ?_
    have g3 := key w3
    simp only [go_sem, reduceIte, Nat.reduceEqDiff, Nat.reduceAdd, Nat.reduceMul, Nat.reduceSub, Nat.reduceLeDiff, Nat.reduceLT, reduceCtorEq]
    refine aw_rg rfl ?_
    simp only [go_sem, reduceIte, Nat.reduceEqDiff, Nat.reduceAdd, Nat.reduceMul, Nat.reduceSub, Nat.reduceLeDiff, Nat.reduceLT, reduceCtorEq, g3]
    refine goA_by (a_values0 ih _ bw v.args v.nl .no _ _ (fun x hx => by have := Val.sz_args hx; omega) (fun x hx => ho.arg hx) ho.len (by simp only [List.length_append, List.length_cons, List.length_nil]; omega) w3) fun y4 G4 w4 => ?_
    simp only [go_sem, reduceIte, Nat.reduceEqDiff, Nat.reduceAdd, Nat.reduceMul, Nat.reduceSub, Nat.reduceLeDiff, Nat.reduceLT, reduceCtorEq]
    refine ⟨trivial, [], rfl, ?_⟩
    have := w4.base (sub_tail hb3b)
    rw [hle]
    simpa [List.append_assoc] using this
theorem a_value (base : Heap) (bw : Nat) (v : Val) (out : List UInt8) (G : Heap) (ho : OkVal v) (hl : (out ++ encV v).length ≤ 1099511627776) (hG : WOk base bw 1 (bytesV out) G) :
    ACall Try.prog 105 [.ptr bw 0, .agg (cV v)] (fun _ G' => WOk base bw 1 (bytesV (out ++ encV v)) G') G := a_value0 _ base bw v out G (Nat.le_refl _) ho hl hG
end Go.Proofs.Ytomjghlaoncpbaa
