/- Part 4 of a proof laid in parts; each part's own comment says what it proves and under which conditions. -/
import Derived.Test.YtlgfffngojlffaaGreatLq3
import Derived.Lib.Bytealg
set_option linter.unusedSimpArgs false
set_option linter.unusedVariables false
namespace Go.Proofs.YtlgfffngojlffaaGreat
open Go.Proofs.YtlgfffngojlffaaGreatV
set_option maxHeartbeats 400000
set_option maxRecDepth 100000
/-- A number from 0 on, seven bits a byte. -/
def natB (n : Nat) : List UInt8 := if h : n < 128 then [UInt8.ofNat n] else UInt8.ofNat (n % 128 + 128) :: natB (n / 128)
termination_by n
theorem natB_small {n : Nat} (h : n < 128) : natB n = [UInt8.ofNat n] := by rw [natB, dif_pos h]
theorem natB_big {n : Nat} (h : ¬ n < 128) : natB n = UInt8.ofNat (n % 128 + 128) :: natB (n / 128) := by rw [natB, dif_neg h]
theorem natB_pos (n : Nat) : 1 ≤ (natB n).length := by
  by_cases h : n < 128
  · rw [natB_small h]; simp
  · rw [natB_big h]; simp
theorem natB_len : ∀ k n, n < 128 ^ (k + 1) → (natB n).length ≤ k + 1
  | 0, n, h => by rw [natB_small (by simpa using h)]; simp
  | k + 1, n, h => by
    by_cases h1 : n < 128
    · rw [natB_small h1]; simp
    · rw [natB_big h1, List.length_cons]
      have := natB_len k (n / 128) (by rw [Nat.div_lt_iff_lt_mul (by decide)]; rw [Nat.pow_succ] at h; exact h)
      omega
theorem natB_len64 {n : Nat} (h : n < 2 ^ 64) : (natB n).length ≤ 10 := natB_len 9 n (Nat.lt_of_lt_of_le h (by decide))
theorem wrap_u64 (n : Int) : IntKind.u64.wrap n = n % 18446744073709551616 := by unfold IntKind.wrap; simp only [IntKind.bits, IntKind.signed]; simp
theorem or128 : ∀ x : Fin 256, bits BinOp.or IntKind.u8 ((x.val : Nat) : Int) 128 = ((x.val % 128 + 128 : Nat) : Int) := by decide +kernel
theorem or128' (n : Nat) : bits BinOp.or IntKind.u8 (IntKind.u8.wrap (n : Int)) 128 = (((UInt8.ofNat (n % 128 + 128)).toNat : Nat) : Int) := by
  have e : IntKind.u8.wrap (n : Int) = ((n % 256 : Nat) : Int) := by rw [wrap_u8]; omega
  rw [e]
  have := or128 ⟨n % 256, Nat.mod_lt _ (by decide)⟩
  simp only at this
  rw [this, UInt8.toNat_ofNat']
  omega
theorem byte_small {n : Nat} (h : n < 128) : IntKind.u8.wrap (n : Int) = (((UInt8.ofNat n).toNat : Nat) : Int) := by
  rw [wrap_u8, UInt8.toNat_ofNat']; omega
theorem shr7 (n : Nat) : (n : Int).fdiv (2 ^ (Nat.min (Int.toNat 7) 64)) = ((n / 128 : Nat) : Int) := by
  have : Nat.min (Int.toNat 7) 64 = 7 := rfl
  rw [this, Int.fdiv_eq_ediv_of_nonneg _ (by decide)]
  show (n : Int) / 128 = _
  omega
structure NatS where
  o : List UInt8
  k : Nat
  nl : Bool
  t : Tag
  H : Heap
theorem a_natural (base : Heap) (bw n : Nat) (out : List UInt8) (G : Heap) (hn : n < 2 ^ 64) (hl : (out ++ natB n).length ≤ 1099511627776) (hG : WOk base bw 1 (bytesV out) G) :
    ACall Tryz.prog 73 [.ptr bw 0, .int .u64 n] (fun _ G' => WOk base bw 1 (bytesV (out ++ natB n)) G') G := by
  obtain ⟨h0, nl, t, H, hnl, hr, hs⟩ := hG
  refine ACall.sub hs ?_
  refine acall_body (rs := []) Tryz.func73 rfl rfl Tryz.ntmps73 (by kernel_rfl) (Nat.le_of_ble_eq_true rfl) ?_
  refine aw_seq fun K1 hK1 => ?_
  refine aw_block ?_
  refine aw_lph (S := {s : NatS // s.o ++ natB s.k = out ++ natB n ∧ s.k < 2 ^ 64 ∧ Room ((bw, .vars [.sl (bytesV s.o) s.nl s.t]) :: base) 1 s.t s.H}) (fun s => [(0, .ptr bw 0), (1, .int .u64 s.1.k)]) (fun s => s.1.H) (fun s => s.1.k) ⟨⟨out, n, nl, t, H⟩, rfl, hn, hr⟩ ?_ (fun _ _ h => h) ?_
  · simp only [go_sem, reduceIte, Nat.reduceEqDiff, Nat.reduceAdd, Nat.reduceMul, Nat.reduceSub, Nat.reduceLeDiff, Nat.reduceLT, reduceCtorEq]
  intro ⟨⟨o, k, nl2, t2, H2⟩, i1, i2, i3⟩
  simp only at i1 i2 i3 ⊢
  have hgw : hget H2 bw = some (.vars [.sl (bytesV o) nl2 t2]) := i3.sub _ _ (hget_self _ _ _)
  have hlo : o.length + (natB k).length ≤ 1099511627776 := by rw [← List.length_append, i1]; exact hl
  have hpos := natB_pos k
  refine aw_seq fun K2 hK2 => ?_
  refine aw_sr rfl ?_
  simp only [go_sem, reduceIte, Nat.reduceEqDiff, Nat.reduceAdd, Nat.reduceMul, Nat.reduceSub, Nat.reduceLeDiff, Nat.reduceLT, reduceCtorEq]
  refine aw_if rfl (fun h => ?_) (fun h => ?_)
  · have hk : ¬ k < 128 := by
      have : (128 : Int) ≤ (k : Int) := by simpa using h
      omega
    refine aw_skip (hK2 _ _ ?_)
    refine aw_seq fun K3 hK3 => ?_
    refine aw_block ?_
    refine aw_rg rfl ?_
    simp only [go_sem, reduceIte, Nat.reduceEqDiff, Nat.reduceAdd, Nat.reduceMul, Nat.reduceSub, Nat.reduceLeDiff, Nat.reduceLT, reduceCtorEq, hgw, or128']
    refine goP_room i3 ?_ fun t' H' hr' => ?_
    · exact ⟨rfl, rfl, by decide, wid_bytes _, wid_bytes _, sca_bytes _, by simp; omega, by simp; omega⟩
    have hgw' : hget H' bw = some (.vars [.sl (bytesV o) nl2 t2]) := hr'.sub _ _ (hget_self _ _ _)
    simp only [go_sem, reduceIte, Nat.reduceEqDiff, Nat.reduceAdd, Nat.reduceMul, Nat.reduceSub, Nat.reduceLeDiff, Nat.reduceLT, reduceCtorEq, hgw']
    refine hK3 _ _ ?_
    refine aw_rg rfl ?_
    simp only [go_sem, reduceIte, Nat.reduceEqDiff, Nat.reduceAdd, Nat.reduceMul, Nat.reduceSub, Nat.reduceLeDiff, Nat.reduceLT, reduceCtorEq, shr7]
    refine ⟨by decide, ⟨⟨o ++ [UInt8.ofNat (k % 128 + 128)], k / 128, _, t', hset H' bw (.vars [.sl (bytesV (o ++ [UInt8.ofNat (k % 128 + 128)])) _ t'])⟩, ?_, ?_, hr'.put⟩, ?_, ?_, fun _ _ h => h⟩
    · rw [← i1, natB_big hk]; simp
    · show k / 128 < 2 ^ 64; omega
    · show k / 128 < k; omega
    · simp only [go_sem, reduceIte, Nat.reduceEqDiff, Nat.reduceAdd, Nat.reduceMul, Nat.reduceSub, Nat.reduceLeDiff, Nat.reduceLT, reduceCtorEq]
  · have hk : k < 128 := by
      have : (k : Int) < 128 := by simpa using h
      omega
    refine aw_exit ?_
    refine hK1 _ _ ?_
    refine aw_rg rfl ?_
    simp only [go_sem, reduceIte, Nat.reduceEqDiff, Nat.reduceAdd, Nat.reduceMul, Nat.reduceSub, Nat.reduceLeDiff, Nat.reduceLT, reduceCtorEq, hgw, byte_small hk]
    refine goP_room i3 ?_ fun t' H' hr' => ?_
    · exact ⟨rfl, rfl, by decide, wid_bytes _, wid_bytes _, sca_bytes _, by simp; omega, by simp; omega⟩
    have hgw' : hget H' bw = some (.vars [.sl (bytesV o) nl2 t2]) := hr'.sub _ _ (hget_self _ _ _)
    simp only [go_sem, reduceIte, Nat.reduceEqDiff, Nat.reduceAdd, Nat.reduceMul, Nat.reduceSub, Nat.reduceLeDiff, Nat.reduceLT, reduceCtorEq, hgw']
    refine ⟨trivial, [], rfl, h0, false, t', _, (by simp), ?_, fun _ _ h => h⟩
    rw [← i1, natB_small hk]
    exact hr'.put
theorem xor_zero64 {a : Nat} (h : a < 2 ^ 64) : bits BinOp.xor IntKind.u64 (a : Int) 0 = (a : Int) := by
  have e : (BitVec.ofInt 64 (a : Int) ^^^ BitVec.ofInt 64 0).toNat = a := by
    have : BitVec.ofInt 64 0 = 0#64 := rfl
    rw [this, BitVec.xor_zero, BitVec.ofInt_natCast, BitVec.toNat_ofNat, Nat.mod_eq_of_lt h]
  show IntKind.u64.wrap (((BitVec.ofInt 64 (a : Int) ^^^ BitVec.ofInt 64 0).toNat : Nat) : Int) = _
  rw [e, wrap_u64]; omega
theorem xor_ones64 {a : Nat} (h : a < 2 ^ 64) : bits BinOp.xor IntKind.u64 (a : Int) 18446744073709551615 = ((18446744073709551615 - a : Nat) : Int) := by
  have e : (BitVec.ofInt 64 (a : Int) ^^^ BitVec.ofInt 64 18446744073709551615).toNat = 18446744073709551615 - a := by
    have : BitVec.ofInt 64 18446744073709551615 = BitVec.allOnes 64 := rfl
    rw [this, BitVec.xor_allOnes, BitVec.toNat_not, BitVec.ofInt_natCast, BitVec.toNat_ofNat, Nat.mod_eq_of_lt h]
  show IntKind.u64.wrap (((BitVec.ofInt 64 (a : Int) ^^^ BitVec.ofInt 64 18446744073709551615).toNat : Nat) : Int) = _
  rw [e, wrap_u64]; omega
/-- Any number: twice what it is; below 0 twice what it is less, less one. -/
def numN (n : Int) : Nat := if 0 ≤ n then (2 * n).toNat else (-2 * n - 1).toNat
theorem i64_range {n : Int} (hn : IntKind.i64.min ≤ n ∧ n ≤ IntKind.i64.max) : -9223372036854775808 ≤ n ∧ n ≤ 9223372036854775807 := hn
theorem numN_lt {n : Int} (hn : IntKind.i64.min ≤ n ∧ n ≤ IntKind.i64.max) : numN n < 2 ^ 64 := by
  have := i64_range hn
  unfold numN
  split <;> omega
theorem num_bits {n : Int} (hn : IntKind.i64.min ≤ n ∧ n ≤ IntKind.i64.max) :
    bits BinOp.xor IntKind.u64 (IntKind.u64.wrap (IntKind.u64.wrap n * 2 ^ (Nat.min (Int.toNat 1) 64))) (IntKind.u64.wrap (n.fdiv (2 ^ (Nat.min (Int.toNat 63) 64)))) = ((numN n : Nat) : Int) := by
  have hr := i64_range hn
  have e1 : Nat.min (Int.toNat 1) 64 = 1 := rfl
  have e2 : Nat.min (Int.toNat 63) 64 = 63 := rfl
  rw [e1, e2, Int.fdiv_eq_ediv_of_nonneg _ (by decide)]
  have e3 : n / 2 ^ 63 = if 0 ≤ n then 0 else -1 := by
    show n / 9223372036854775808 = _
    split <;> omega
  rw [e3, wrap_u64, wrap_u64, wrap_u64]
  by_cases h : 0 ≤ n
  · rw [if_pos h, numN, if_pos h]
    have a1 : (n % 18446744073709551616 * 2 ^ 1) % 18446744073709551616 = (((2 * n).toNat : Nat) : Int) := by
      show (n % 18446744073709551616 * 2) % 18446744073709551616 = _
      omega
    rw [a1, show ((0 : Int) % 18446744073709551616) = 0 from rfl]
    exact xor_zero64 (by omega)
  · rw [if_neg h, numN, if_neg h]
    have a1 : (n % 18446744073709551616 * 2 ^ 1) % 18446744073709551616 = (((18446744073709551616 + 2 * n).toNat : Nat) : Int) := by
      show (n % 18446744073709551616 * 2) % 18446744073709551616 = _
      omega
    rw [a1, show ((-1 : Int) % 18446744073709551616) = 18446744073709551615 from rfl, xor_ones64 (by omega)]
    omega
theorem natB_numN {n : Int} (hn : IntKind.i64.min ≤ n ∧ n ≤ IntKind.i64.max) : (natB (numN n)).length ≤ 10 := natB_len64 (numN_lt hn)
theorem a_num (base : Heap) (bw : Nat) (n : Int) (out : List UInt8) (G : Heap) (hn : IntKind.i64.min ≤ n ∧ n ≤ IntKind.i64.max) (hl : (out ++ natB (numN n)).length ≤ 1099511627776) (hG : WOk base bw 1 (bytesV out) G) :
    ACall Tryz.prog 76 [.ptr bw 0, .int .i64 n] (fun _ G' => WOk base bw 1 (bytesV (out ++ natB (numN n))) G') G := by
  refine acall_body (rs := []) Tryz.func76 rfl rfl Tryz.ntmps76 (by kernel_rfl) (Nat.le_of_ble_eq_true rfl) ?_
  refine aw_rg rfl ?_
  simp only [go_sem, reduceIte, Nat.reduceEqDiff, Nat.reduceAdd, Nat.reduceMul, Nat.reduceSub, Nat.reduceLeDiff, Nat.reduceLT, reduceCtorEq, num_bits hn]
  refine ⟨by decide, by decide, ?_⟩
  refine goA_by (a_natural base bw _ out G (numN_lt hn) hl hG) fun y G' h => ?_
  simp only [go_sem, reduceIte, Nat.reduceEqDiff, Nat.reduceAdd, Nat.reduceMul, Nat.reduceSub, Nat.reduceLeDiff, Nat.reduceLT, reduceCtorEq]
  exact ⟨trivial, [], rfl, h⟩
theorem wrapN {n : Nat} (h : n < 2 ^ 64) : IntKind.u64.wrap (n : Int) = (n : Int) := by rw [wrap_u64]; omega
def textB (s : List UInt8) : List UInt8 := natB s.length ++ s
theorem a_text (base : Heap) (bw : Nat) (s out : List UInt8) (G : Heap) (hs : s.length < 2 ^ 40) (hl : (out ++ textB s).length ≤ 1099511627776) (hG : WOk base bw 1 (bytesV out) G) :
    ACall Tryz.prog 92 [.ptr bw 0, .str s] (fun _ G' => WOk base bw 1 (bytesV (out ++ textB s)) G') G := by
  have hl' : out.length + (natB s.length).length + s.length ≤ 1099511627776 := by simpa [textB, Nat.add_assoc] using hl
  refine acall_body (rs := []) Tryz.func92 rfl rfl Tryz.ntmps92 (by kernel_rfl) (Nat.le_of_ble_eq_true rfl) ?_
  refine aw_sr rfl ?_
  simp only [go_sem, reduceIte, Nat.reduceEqDiff, Nat.reduceAdd, Nat.reduceMul, Nat.reduceSub, Nat.reduceLeDiff, Nat.reduceLT, reduceCtorEq, wrapN (Nat.lt_trans hs (by decide : 2 ^ 40 < 2 ^ 64))]
  refine goA_by (a_natural base bw _ out G (Nat.lt_trans hs (by decide)) (by rw [List.length_append]; omega) hG) fun y G' h => ?_
  obtain ⟨h0, nl, t, H, hnl, hr, hsb⟩ := h
  simp only [go_sem, reduceIte, Nat.reduceEqDiff, Nat.reduceAdd, Nat.reduceMul, Nat.reduceSub, Nat.reduceLeDiff, Nat.reduceLT, reduceCtorEq]
  refine AW.of_hsub hsb ?_
  have hgw : hget H bw = some (.vars [.sl (bytesV (out ++ natB s.length)) nl t]) := hr.sub _ _ (hget_self _ _ _)
  refine aw_rg rfl ?_
  simp only [go_sem, reduceIte, Nat.reduceEqDiff, Nat.reduceAdd, Nat.reduceMul, Nat.reduceSub, Nat.reduceLeDiff, Nat.reduceLT, reduceCtorEq, hgw]
  refine goP_room hr ?_ fun t' H' hr' => ?_
  · exact ⟨rfl, rfl, by decide, wid_bytes _, wid_bytes _, sca_bytes _, by simp; omega, by simp; omega⟩
  have hgw' : hget H' bw = some (.vars [.sl (bytesV (out ++ natB s.length)) nl t]) := hr'.sub _ _ (hget_self _ _ _)
  simp only [go_sem, reduceIte, Nat.reduceEqDiff, Nat.reduceAdd, Nat.reduceMul, Nat.reduceSub, Nat.reduceLeDiff, Nat.reduceLT, reduceCtorEq, hgw', List.append_assoc]
  exact ⟨trivial, [], rfl, h0, _, t', _, (fun e => by
    have e1 : nl = true := by simp only [Bool.and_eq_true] at e; exact e.1
    have := hnl e1
    have := natB_pos s.length
    have e3 := congrArg List.length (hnl e1)
    rw [length_bytesV, List.length_append, List.length_nil] at e3; omega), hr'.put, fun _ _ h => h⟩
end Go.Proofs.YtlgfffngojlffaaGreat

set_option linter.unusedSimpArgs false
set_option linter.unusedVariables false
namespace Go.Proofs.YtlgfffngojlffaaGreat
open Go.Proofs.YtlgfffngojlffaaGreatV
set_option maxHeartbeats 400000
set_option maxRecDepth 100000
mutual
/-- A value as bytes. -/
def encV : Val → List UInt8 | .mk k n t ar _ => u8 k :: (natB (numN n) ++ (textB t ++ (natB ar.length ++ encVs ar)))
def encVs : List Val → List UInt8 | [] => [] | v :: vs => encV v ++ encVs vs
end
theorem encV_eq (v : Val) : encV v = u8 v.kind :: (natB (numN v.num) ++ (textB v.text ++ (natB v.args.length ++ encVs v.args))) := by cases v; rw [encV]; rfl
theorem encVs_append : ∀ a b, encVs (a ++ b) = encVs a ++ encVs b
  | [], b => rfl
  | v :: a, b => by rw [List.cons_append, encVs, encVs, encVs_append a b, List.append_assoc]
theorem encVs_succ {l : List Val} {i : Nat} (h : i < l.length) : encVs (l.take (i + 1)) = encVs (l.take i) ++ encV l[i] := by
  rw [List.take_succ_eq_append_getElem h, encVs_append]; simp [encVs]
theorem encVs_take_len (l : List Val) (i : Nat) : (encVs (l.take i)).length ≤ (encVs l).length := by
  have := encVs_append (l.take i) (l.drop i)
  rw [List.take_append_drop] at this
  rw [this, List.length_append]; omega
theorem one_u8 (n : Int) : [[V.int .u8 (IntKind.u8.wrap n)]] = bytesV [u8 n] := by simp only [bytesV, List.map_cons, List.map_nil, u8_cast]
def CallV (n : Nat) : Prop := ∀ (base : Heap) (bw : Nat) (v : Val) (out : List UInt8) (G : Heap), v.sz ≤ n → OkVal v → (out ++ encV v).length ≤ 1099511627776 → WOk base bw 1 (bytesV out) G →
    ACall Tryz.prog 94 [.ptr bw 0, .agg (cV v)] (fun _ G' => WOk base bw 1 (bytesV (out ++ encV v)) G') G
theorem a_values0 {n : Nat} (ih : CallV n) (base : Heap) (bw : Nat) (l : List Val) (nl : Bool) (t : Tag) (out : List UInt8) (G : Heap) (hn : ∀ v ∈ l, v.sz ≤ n) (ho : ∀ v ∈ l, OkVal v) (hll : l.length ≤ bulk) (hl : (out ++ (natB l.length ++ encVs l)).length ≤ 1099511627776) (hG : WOk base bw 1 (bytesV out) G) :
    ACall Tryz.prog 93 [.ptr bw 0, .sl (l.map eVal) nl t] (fun _ G' => WOk base bw 1 (bytesV (out ++ (natB l.length ++ encVs l))) G') G := by
  have hll' : l.length ≤ 1048576 := hll
  have hl' : out.length + ((natB l.length).length + (encVs l).length) ≤ 1099511627776 := by simpa using hl
  refine acall_body (rs := []) Tryz.func93 rfl rfl Tryz.ntmps93 (by kernel_rfl) (Nat.le_of_ble_eq_true rfl) ?_
  refine aw_sr rfl ?_
  simp only [go_sem, reduceIte, Nat.reduceEqDiff, Nat.reduceAdd, Nat.reduceMul, Nat.reduceSub, Nat.reduceLeDiff, Nat.reduceLT, reduceCtorEq, wrapN (by omega : l.length < 2 ^ 64)]
  refine goA_by (a_natural base bw _ out G (by omega) (by rw [List.length_append]; omega) hG) fun y G' h => ?_
  simp only [go_sem, reduceIte, Nat.reduceEqDiff, Nat.reduceAdd, Nat.reduceMul, Nat.reduceSub, Nat.reduceLeDiff, Nat.reduceLT, reduceCtorEq]
  refine aw_sr rfl ?_
  simp only [go_sem, reduceIte, Nat.reduceEqDiff, Nat.reduceAdd, Nat.reduceMul, Nat.reduceSub, Nat.reduceLeDiff, Nat.reduceLT, reduceCtorEq]
  refine aw_range l.length (S := Heap) (fun _ _ => [(11, .sl (l.map eVal) nl t), (0, .ptr bw 0)]) (fun _ H => H) (fun i H => WOk base bw 1 (bytesV (out ++ (natB l.length ++ encVs (l.take i)))) H) G' (by omega) ?_ (fun _ _ h => h) ?_ rfl (fun _ _ => rfl) ?_ ?_ (by decide)
  · simp only [go_sem, reduceIte, Nat.reduceEqDiff, Nat.reduceAdd, Nat.reduceMul, Nat.reduceSub, Nat.reduceLeDiff, Nat.reduceLT, reduceCtorEq, Int.natCast_zero]
  · rw [List.take_zero, encVs, List.append_nil]; exact h
  · intro i H hi he
    have hlen := encVs_take_len l (i + 1)
    rw [encVs_succ hi, List.length_append] at hlen
    refine aw_sr rfl ?_
    simp only [go_sem, reduceIte, Nat.reduceEqDiff, Nat.reduceAdd, Nat.reduceMul, Nat.reduceSub, Nat.reduceLeDiff, Nat.reduceLT, reduceCtorEq, getD_map hi, eC, cV]
    refine ⟨⟨by omega, by omega, wid_eVal _⟩, fun b5 hb5 => ?_⟩
    have hp := he.push (o := .vars (cV l[i])) hb5
    refine aw_rg rfl ?_
    simp only [go_sem, reduceIte, Nat.reduceEqDiff, Nat.reduceAdd, Nat.reduceMul, Nat.reduceSub, Nat.reduceLeDiff, Nat.reduceLT, reduceCtorEq]
    refine goA_by (ih _ bw l[i] _ _ (hn _ (List.getElem_mem hi)) (ho _ (List.getElem_mem hi)) (by simp only [List.length_append]; omega) hp) fun y2 G2 h2 => ?_
    simp only [go_sem, reduceIte, Nat.reduceEqDiff, Nat.reduceAdd, Nat.reduceMul, Nat.reduceSub, Nat.reduceLeDiff, Nat.reduceLT, reduceCtorEq]
    refine ⟨G2, ?_, ?_, fun _ _ h => h⟩
    · have hb := h2.base (sub_tail (sub_none he.old hb5))
      rw [encVs_succ hi]
      simpa [List.append_assoc] using hb
    · simp only [go_sem, reduceIte, Nat.reduceEqDiff, Nat.reduceAdd, Nat.reduceMul, Nat.reduceSub, Nat.reduceLeDiff, Nat.reduceLT, reduceCtorEq]
  · intro H he
    rw [List.take_length] at he
    exact ⟨trivial, [], rfl, he⟩
theorem a_value0 : ∀ n, CallV n := by
  intro n
  induction n with
  | zero => intro base bw v out G h; have := v.sz_eq; omega
  | succ n ih =>
    intro base bw v out G hsz ho hl hG
    have hle := encV_eq v
    have hl' : out.length + (1 + ((natB (numN v.num)).length + ((textB v.text).length + ((natB v.args.length).length + (encVs v.args).length)))) ≤ 1099511627776 := by
      have := hl
      rw [hle] at this
      simp only [List.length_append, List.length_cons] at this
      omega
    have htx : v.text.length ≤ 1048576 := ho.text
    refine acall_body (rs := []) Tryz.func94 rfl rfl Tryz.ntmps94 (by kernel_rfl) (Nat.le_of_ble_eq_true rfl) ?_
    refine aw_sr rfl ?_
    simp only [go_sem, reduceIte, Nat.reduceEqDiff, Nat.reduceAdd, Nat.reduceMul, Nat.reduceSub, Nat.reduceLeDiff, Nat.reduceLT, reduceCtorEq]
    intro b3 hb3
    have hp := hG.push (o := .vars (cV v)) hb3
    have hb3b := sub_none hG.old hb3
    obtain ⟨h0, nl, t, H, hnl, hr, hsb⟩ := hp
    refine AW.of_hsub hsb ?_
    have hgw : hget H bw = some (.vars [.sl (bytesV out) nl t]) := hr.sub _ _ (hget_self _ _ _)
    obtain ⟨n3w, _⟩ := none_cons h0
    have hg3 : hget H b3 = some (.vars (cV v)) := hr.sub _ _ (by rw [hget_cons_ne (fun e => n3w e.symm), hget_self])
    refine aw_srd [(0,true),(1,true),(2,true),(3,true),(4,true),(5,true),(6,true),(7,true),(8,true),(9,false),(10,true),(11,true),(12,false)] mixed rfl (by kernel_rfl) ?_
    simp only [go_sem, reduceIte, Nat.reduceEqDiff, Nat.reduceAdd, Nat.reduceMul, Nat.reduceSub, Nat.reduceLeDiff, Nat.reduceLT, reduceCtorEq, hgw, hg3, one_u8]
    refine goP_room hr ?_ fun t' H' hr' => ?_
    · exact ⟨rfl, rfl, by decide, wid_bytes _, wid_bytes _, sca_bytes _, by simp; omega, by simp; omega⟩
    have hgw' : hget H' bw = some (.vars [.sl (bytesV out) nl t]) := hr'.sub _ _ (hget_self _ _ _)
    simp only [go_sem, reduceIte, Nat.reduceEqDiff, Nat.reduceAdd, Nat.reduceMul, Nat.reduceSub, Nat.reduceLeDiff, Nat.reduceLT, reduceCtorEq, hgw']
    have w1 : WOk ((b3, .vars (cV v)) :: base) bw 1 (bytesV (out ++ [u8 v.kind])) (hset H' bw (.vars [.sl (bytesV (out ++ [u8 v.kind])) false t'])) := ⟨h0, _, t', _, (by simp), hr'.put, fun _ _ h => h⟩
    have key : ∀ {es : List (List V)} {G1 : Heap}, WOk ((b3, .vars (cV v)) :: base) bw 1 es G1 → hget G1 b3 = some (.vars (cV v)) := fun h => h.old _ _ (hget_self _ _ _)
    have g1 := key w1
    refine aw_sr rfl ?_
    simp only [go_sem, reduceIte, Nat.reduceEqDiff, Nat.reduceAdd, Nat.reduceMul, Nat.reduceSub, Nat.reduceLeDiff, Nat.reduceLT, reduceCtorEq, g1]
    refine goA_by (a_num _ bw v.num _ _ ho.num (by simp only [List.length_append, List.length_cons, List.length_nil]; omega) w1) fun y2 G2 w2 => ?_
    have g2 := key w2
    simp only [go_sem, reduceIte, Nat.reduceEqDiff, Nat.reduceAdd, Nat.reduceMul, Nat.reduceSub, Nat.reduceLeDiff, Nat.reduceLT, reduceCtorEq]
    refine aw_sr rfl ?_
    simp only [go_sem, reduceIte, Nat.reduceEqDiff, Nat.reduceAdd, Nat.reduceMul, Nat.reduceSub, Nat.reduceLeDiff, Nat.reduceLT, reduceCtorEq, g2]
    refine goA_by (a_text _ bw v.text _ _ (by omega) (by simp only [List.length_append, List.length_cons, List.length_nil]; omega) w2) fun y3 G3 w3 => ?_
    have g3 := key w3
    simp only [go_sem, reduceIte, Nat.reduceEqDiff, Nat.reduceAdd, Nat.reduceMul, Nat.reduceSub, Nat.reduceLeDiff, Nat.reduceLT, reduceCtorEq]
    refine aw_rg rfl ?_
    simp only [go_sem, reduceIte, Nat.reduceEqDiff, Nat.reduceAdd, Nat.reduceMul, Nat.reduceSub, Nat.reduceLeDiff, Nat.reduceLT, reduceCtorEq, g3]
    refine goA_by (a_values0 ih _ bw v.args v.nl .no _ _ (fun x hx => by have := Val.sz_args hx; omega) (fun x hx => ho.arg hx) ho.len (by simp only [List.length_append, List.length_cons, List.length_nil]; omega) w3) fun y4 G4 w4 => ?_
    simp only [go_sem, reduceIte, Nat.reduceEqDiff, Nat.reduceAdd, Nat.reduceMul, Nat.reduceSub, Nat.reduceLeDiff, Nat.reduceLT, reduceCtorEq]
    refine ⟨trivial, [], rfl, ?_⟩
    have := w4.base (sub_tail hb3b)
    rw [hle]
    simpa [List.append_assoc] using this
theorem a_value (base : Heap) (bw : Nat) (v : Val) (out : List UInt8) (G : Heap) (ho : OkVal v) (hl : (out ++ encV v).length ≤ 1099511627776) (hG : WOk base bw 1 (bytesV out) G) :
    ACall Tryz.prog 94 [.ptr bw 0, .agg (cV v)] (fun _ G' => WOk base bw 1 (bytesV (out ++ encV v)) G') G := a_value0 _ base bw v out G (Nat.le_refl _) ho hl hG
end Go.Proofs.YtlgfffngojlffaaGreat

set_option linter.unusedSimpArgs false
set_option linter.unusedVariables false
namespace Go.Proofs.YtlgfffngojlffaaGreat
open Go.Proofs.YtlgfffngojlffaaGreatV
set_option maxHeartbeats 400000
set_option maxRecDepth 100000
end Go.Proofs.YtlgfffngojlffaaGreat

set_option linter.unusedSimpArgs false
set_option linter.unusedVariables false
namespace Go.Proofs.YtlgfffngojlffaaGreat
open Go.Proofs.YtlgfffngojlffaaGreatV
set_option maxHeartbeats 400000
set_option maxRecDepth 100000
end Go.Proofs.YtlgfffngojlffaaGreat

set_option linter.unusedSimpArgs false
set_option linter.unusedVariables false
namespace Go.Proofs.YtlgfffngojlffaaGreat
open Go.Proofs.YtlgfffngojlffaaGreatV
set_option maxHeartbeats 400000
set_option maxRecDepth 100000
end Go.Proofs.YtlgfffngojlffaaGreat

set_option linter.unusedSimpArgs false
set_option linter.unusedVariables false
namespace Go.Proofs.YtlgfffngojlffaaGreat
open Go.Proofs.YtlgfffngojlffaaGreatV
set_option maxHeartbeats 400000
set_option maxRecDepth 100000
theorem quiet_cmpstring {P : Program} {g : FuncId} {fn : Func} {a b : List UInt8} (hf : P.funcs[g]? = some fn) (hname : (fn.name == "runtime.NumGoroutine") = false) (hb : fn.body.isNone = true) (hn : Extern.findNext fn = none) (he : Extern.find fn = some Extern.BytealgCompare.compare) :
    Quiet P g [.str a, .str b] (.int .i64 (Lib.compareBytes a b)) := by
  intro G
  refine acall_extern hf hname hb hn he fun E M w vs hm hr => ?_
  obtain ⟨vs⟩ := vs
  match vs, hr with
  | [], hr => exact absurd hr.1 (by simp)
  | [_], hr => exact absurd hr.1 (by simp)
  | _ :: _ :: _ :: _, hr => exact absurd hr.1 (by simp)
  | [u, v], hr =>
    have h1 := (RepL.head hr).str_inv
    have h2 := hr.tail.head.str_inv
    subst h1 h2
    exact ⟨M, G, w, .int .i64 (Lib.compareBytes a b), _, Lib.run_compareString _ _ w, M.le_refl, hm, .int _ _, rfl, rfl⟩
def cmpI (a b : Int) : Int := if a < b then -1 else if b < a then 1 else 0
def eInt (n : Int) : List V := [.int .i64 n]
def orF : List Int → Int
  | [] => 0
  | x :: xs => if x = 0 then orF xs else x
/-- A module: its name, its version, what it uses. -/
abbrev Mo := List UInt8 × Int × List (List UInt8 × Int × Int) × Bool
def eMo (m : Mo) : List V := [.str m.1, .int .i64 m.2.1, .sl (m.2.2.1.map eUse) m.2.2.2 .no]
def ordF (a b : Mo) : Int := orF [Lib.compareBytes a.1 b.1, cmpI a.2.1 b.2.1]
end Go.Proofs.YtlgfffngojlffaaGreat

set_option linter.unusedSimpArgs false
set_option linter.unusedVariables false
namespace Go.Proofs.YtlgfffngojlffaaGreat
open Go.Proofs.YtlgfffngojlffaaGreatV
set_option maxHeartbeats 400000
set_option maxRecDepth 100000
theorem all_take_next {A : Type} {q : A → Bool} {xs : List A} {i : Nat} (h : (xs.take i).all q = true) (hi : i < xs.length) (he : q xs[i] = true) : (xs.take (i + 1)).all q = true := by
  rw [List.take_succ_eq_append_getElem hi, List.all_append, h]; simp [he]
theorem all_not {A : Type} {q : A → Bool} {xs : List A} {i : Nat} (hi : i < xs.length) (he : q xs[i] = false) : xs.all q = false := by
  rw [List.all_eq_false]; exact ⟨_, List.getElem_mem hi, by simp [he]⟩
theorem q_ValuesSmall (vs : List Val) (nl : Bool) (t : Tag) (hl : vs.length ≤ 1048576) (hv : ∀ v ∈ vs, v.sz ≤ bulk) : Quiet Tryz.prog 70 [.sl (vs.map eVal) nl t] (.bool (vs.all smallV)) := by
  refine Quiet.weak fun G => ?_
  refine acall_body (rs := [.tmp 2]) Tryz.func70 rfl rfl Tryz.ntmps70 (by kernel_rfl) (Nat.le_of_ble_eq_true rfl) ?_
  refine aw_sr rfl ?_
  simp only [go_sem, reduceIte, Nat.reduceEqDiff, Nat.reduceAdd, Nat.reduceMul, Nat.reduceSub, Nat.reduceLeDiff, Nat.reduceLT, reduceCtorEq]
  refine aw_seq fun K6 hK6 => ?_
  refine aw_sr rfl ?_
  simp only [go_sem, reduceIte, Nat.reduceEqDiff, Nat.reduceAdd, Nat.reduceMul, Nat.reduceSub, Nat.reduceLeDiff, Nat.reduceLT, reduceCtorEq]
  refine aw_range vs.length (S := Unit) (fun _ _ => [(5, .sl (vs.map eVal) nl t)]) (fun _ _ => G) (fun i _ => (vs.take i).all smallV = true) () (by omega) ?_ (fun _ _ h => h) rfl rfl (fun _ _ => rfl) ?_ ?_ (by decide)
  · simp only [go_sem, reduceIte, Nat.reduceEqDiff, Nat.reduceAdd, Nat.reduceMul, Nat.reduceSub, Nat.reduceLeDiff, Nat.reduceLT, reduceCtorEq, Int.natCast_zero]
  · intro i _ hi he
    refine aw_sr rfl ?_
    simp only [go_sem, reduceIte, Nat.reduceEqDiff, Nat.reduceAdd, Nat.reduceMul, Nat.reduceSub, Nat.reduceLeDiff, Nat.reduceLT, reduceCtorEq, getD_map hi, eC, cV]
    refine ⟨⟨by omega, by omega, wid_eVal _⟩, fun b hb => ?_⟩
    refine aw_sr rfl ?_
    simp only [go_sem, reduceIte, Nat.reduceEqDiff, Nat.reduceAdd, Nat.reduceMul, Nat.reduceSub, Nat.reduceLeDiff, Nat.reduceLT, reduceCtorEq]
    refine goA_q (q_ValueSmall vs[i] (hv _ (List.getElem_mem hi))) ?_
    simp only [go_sem, reduceIte, Nat.reduceEqDiff, Nat.reduceAdd, Nat.reduceMul, Nat.reduceSub, Nat.reduceLeDiff, Nat.reduceLT, reduceCtorEq]
    refine aw_if rfl (fun h => ?_) (fun h => ?_)
    · refine aw_sr rfl ?_
      simp only [go_sem, reduceIte, Nat.reduceEqDiff, Nat.reduceAdd, Nat.reduceMul, Nat.reduceSub, Nat.reduceLeDiff, Nat.reduceLT, reduceCtorEq]
      refine aw_ret ⟨trivial, _, rfl, ?_, hsub_cons hb⟩
      rw [all_not hi (by simpa using h)]
      exact Vle.refl _
    · refine aw_skip ⟨(), all_take_next he hi (by simpa using h), ?_, hsub_cons hb⟩
      simp only [go_sem, reduceIte, Nat.reduceEqDiff, Nat.reduceAdd, Nat.reduceMul, Nat.reduceSub, Nat.reduceLeDiff, Nat.reduceLT, reduceCtorEq]
  · intro _ he
    refine hK6 _ _ ?_
    refine aw_sr rfl ?_
    simp only [go_sem, reduceIte, Nat.reduceEqDiff, Nat.reduceAdd, Nat.reduceMul, Nat.reduceSub, Nat.reduceLeDiff, Nat.reduceLT, reduceCtorEq]
    refine aw_ret ⟨trivial, _, rfl, ?_, fun _ _ h => h⟩
    rw [List.take_length] at he
    rw [he]
    exact Vle.refl _
def smallS (s : Sav) : Bool := s.2.2.1.all (fun x => smallV x.2) && s.2.1.1.all smallV
theorem q_SavedSmall (s : Sav) (h1 : s.2.1.1.length ≤ 1048576) (h2 : s.2.2.1.length ≤ 1048576) (hv1 : ∀ v ∈ s.2.1.1, v.sz ≤ bulk) (hv2 : ∀ v ∈ s.2.2.1, v.2.sz ≤ bulk) : Quiet Tryz.prog 40 [.agg (cSav s)] (.bool (smallS s)) := by
  have hq := q_ValuesSmall s.2.1.1 s.2.1.2 .no h1 hv1
  refine Quiet.weak fun G => ?_
  refine acall_body (rs := [.tmp 2]) Tryz.func40 rfl rfl Tryz.ntmps40 (by kernel_rfl) (Nat.le_of_ble_eq_true rfl) ?_
  refine aw_sr rfl ?_
  simp only [go_sem, reduceIte, Nat.reduceEqDiff, Nat.reduceAdd, Nat.reduceMul, Nat.reduceSub, Nat.reduceLeDiff, Nat.reduceLT, reduceCtorEq]
  intro b0 hb0
  refine aw_seq fun K6 hK6 => ?_
  refine aw_sr rfl ?_
  simp only [go_sem, reduceIte, Nat.reduceEqDiff, Nat.reduceAdd, Nat.reduceMul, Nat.reduceSub, Nat.reduceLeDiff, Nat.reduceLT, reduceCtorEq]
  refine aw_range s.2.2.1.length (S := Unit) (fun _ _ => [(6, .sl (s.2.2.1.map eIn) s.2.2.2 .no), (1, .ptr b0 0)]) (fun _ _ => (b0, .vars (cSav s)) :: G) (fun i _ => (s.2.2.1.take i).all (fun x => smallV x.2) = true) () (by omega) ?_ (fun _ _ h => h) rfl rfl (fun _ _ => rfl) ?_ ?_ (by decide)
  · simp only [go_sem, reduceIte, Nat.reduceEqDiff, Nat.reduceAdd, Nat.reduceMul, Nat.reduceSub, Nat.reduceLeDiff, Nat.reduceLT, reduceCtorEq, Int.natCast_zero]
  · intro i _ hi he
    refine aw_sr rfl ?_
    simp only [go_sem, reduceIte, Nat.reduceEqDiff, Nat.reduceAdd, Nat.reduceMul, Nat.reduceSub, Nat.reduceLeDiff, Nat.reduceLT, reduceCtorEq, getD_map hi, eIn, cIn, cV]
    refine ⟨⟨by omega, by omega, wid_map (g := eIn) (fun _ => rfl) _⟩, fun b hb => ?_⟩
    refine aw_sr rfl ?_
    simp only [go_sem, reduceIte, Nat.reduceEqDiff, Nat.reduceAdd, Nat.reduceMul, Nat.reduceSub, Nat.reduceLeDiff, Nat.reduceLT, reduceCtorEq]
    refine goA_q (q_ValueSmall s.2.2.1[i].2 (hv2 _ (List.getElem_mem hi))) ?_
    simp only [go_sem, reduceIte, Nat.reduceEqDiff, Nat.reduceAdd, Nat.reduceMul, Nat.reduceSub, Nat.reduceLeDiff, Nat.reduceLT, reduceCtorEq]
    refine aw_if rfl (fun h => ?_) (fun h => ?_)
    · refine aw_sr rfl ?_
      simp only [go_sem, reduceIte, Nat.reduceEqDiff, Nat.reduceAdd, Nat.reduceMul, Nat.reduceSub, Nat.reduceLeDiff, Nat.reduceLT, reduceCtorEq]
      refine aw_ret ⟨trivial, _, rfl, ?_, fun b' o' h => hsub_cons hb _ _ (hsub_cons hb0 _ _ h)⟩
      rw [smallS, all_not (q := fun x => smallV x.2) hi (by simpa using h)]
      exact Vle.refl _
    · refine aw_skip ⟨(), all_take_next (q := fun x => smallV x.2) he hi (by simpa using h), ?_, hsub_cons hb⟩
      simp only [go_sem, reduceIte, Nat.reduceEqDiff, Nat.reduceAdd, Nat.reduceMul, Nat.reduceSub, Nat.reduceLeDiff, Nat.reduceLT, reduceCtorEq]
  · intro _ he
    refine hK6 _ _ ?_
    refine aw_sr rfl ?_
    simp only [go_sem, reduceIte, Nat.reduceEqDiff, Nat.reduceAdd, Nat.reduceMul, Nat.reduceSub, Nat.reduceLeDiff, Nat.reduceLT, reduceCtorEq]
    refine goA_q hq ?_
    simp only [go_sem, reduceIte, Nat.reduceEqDiff, Nat.reduceAdd, Nat.reduceMul, Nat.reduceSub, Nat.reduceLeDiff, Nat.reduceLT, reduceCtorEq]
    refine aw_ret ⟨trivial, _, rfl, ?_, hsub_cons hb0⟩
    rw [List.take_length] at he
    rw [smallS, he, Bool.true_and]
    exact Vle.refl _
/-- A field of a new state; a move; a way. -/
abbrev Fld := Int × Val
abbrev cFld (x : Fld) : List V := .int .i64 x.1 :: cV x.2
def eFld (x : Fld) : List V := cFld x
abbrev Mov := List UInt8 × Int × (List Fld × Bool) × (List Int × Bool)
abbrev cMov (m : Mov) : List V := [.str m.1, .int .i64 m.2.1, .sl (m.2.2.1.1.map eFld) m.2.2.1.2 .no, .sl (m.2.2.2.1.map eInt) m.2.2.2.2 .no]
def eMov (m : Mov) : List V := cMov m
abbrev Wy := List Mov × Bool
abbrev cWy (w : Wy) : List V := [.sl (w.1.map eMov) w.2 .no]
def smallM (m : Mov) : Bool := m.2.2.1.1.all fun f => smallV f.2
end Go.Proofs.YtlgfffngojlffaaGreat

set_option linter.unusedSimpArgs false
set_option linter.unusedVariables false
namespace Go.Proofs.YtlgfffngojlffaaGreat
open Go.Proofs.YtlgfffngojlffaaGreatV
set_option maxHeartbeats 400000
set_option maxRecDepth 100000
theorem q_Clone (l : List UInt8) (nl : Bool) (t : Tag) (hl : l.length ≤ 140737488355328) (hnl : nl = true → l = []) : Quiet Tryz.prog 45 [.sl (bytesV l) nl t] (.sl (bytesV l) nl .no) := by
  refine Quiet.weak fun G => ?_
  refine acall_body (rs := [.tmp 2]) Tryz.func45 rfl rfl Tryz.ntmps45 (by kernel_rfl) (Nat.le_of_ble_eq_true rfl) ?_
  refine aw_sr rfl ?_
  simp only [go_sem, reduceIte, Nat.reduceEqDiff, Nat.reduceAdd, Nat.reduceMul, Nat.reduceSub, Nat.reduceLeDiff, Nat.reduceLT, reduceCtorEq]
  refine aw_seq fun K hK => ?_
  refine aw_sr rfl ?_
  simp only [go_sem, reduceIte, Nat.reduceEqDiff, Nat.reduceAdd, Nat.reduceMul, Nat.reduceSub, Nat.reduceLeDiff, Nat.reduceLT, reduceCtorEq]
  refine aw_if rfl (fun h => ?_) (fun h => ?_)
  · refine aw_sr rfl ?_
    simp only [go_sem, reduceIte, Nat.reduceEqDiff, Nat.reduceAdd, Nat.reduceMul, Nat.reduceSub, Nat.reduceLeDiff, Nat.reduceLT, reduceCtorEq]
    refine aw_ret ⟨trivial, _, rfl, ?_, fun _ _ h => h⟩
    rw [h, hnl h]
    exact Vle.untag
  · refine aw_skip (hK _ _ ?_)
    refine aw_sr rfl ?_
    simp only [go_sem, reduceIte, Nat.reduceEqDiff, Nat.reduceAdd, Nat.reduceMul, Nat.reduceSub, Nat.reduceLeDiff, Nat.reduceLT, reduceCtorEq]
    refine goP_new ⟨rfl, rfl, by decide, by simp, wid_bytes _, sca_bytes _, by simpa using hl, by simp; omega⟩ fun t' H' hr => ?_
    simp only [go_sem, reduceIte, Nat.reduceEqDiff, Nat.reduceAdd, Nat.reduceMul, Nat.reduceSub, Nat.reduceLeDiff, Nat.reduceLT, reduceCtorEq]
    refine aw_ret ⟨trivial, _, rfl, ?_, hr.sub⟩
    rw [h]
    exact Vle.untag
/-- Pieces, as rows of bytes. -/
def ePc (p : List UInt8 × Bool) : List V := [.sl (bytesV p.1) p.2 .no]
def eStr (s : List UInt8) : List V := [.str s]
end Go.Proofs.YtlgfffngojlffaaGreat

set_option linter.unusedSimpArgs false
set_option linter.unusedVariables false
namespace Go.Proofs.YtlgfffngojlffaaGreat
open Go.Proofs.YtlgfffngojlffaaGreatV
set_option maxHeartbeats 400000
set_option maxRecDepth 100000
mutual
/-- How deep a value is; how long its longest text. -/
def Val.deep : Val → Nat | .mk _ _ _ ar _ => deeps ar + 1
def deeps : List Val → Nat | [] => 0 | v :: vs => max v.deep (deeps vs)
end
mutual
def Val.long : Val → Nat | .mk _ _ t ar _ => max t.length (longs ar)
def longs : List Val → Nat | [] => 0 | v :: vs => max v.long (longs vs)
end
theorem deep_eq (v : Val) : v.deep = deeps v.args + 1 := by cases v; rw [Val.deep]; rfl
theorem long_eq (v : Val) : v.long = max v.text.length (longs v.args) := by cases v; rw [Val.long]; rfl
theorem deeps_append : ∀ a b, deeps (a ++ b) = max (deeps a) (deeps b)
  | [], b => by simp [deeps]
  | v :: a, b => by rw [List.cons_append, deeps, deeps, deeps_append a b, Nat.max_assoc]
theorem longs_append : ∀ a b, longs (a ++ b) = max (longs a) (longs b)
  | [], b => by simp [longs]
  | v :: a, b => by rw [List.cons_append, longs, longs, longs_append a b, Nat.max_assoc]
theorem deeps_succ {l : List Val} {i : Nat} (h : i < l.length) : deeps (l.take (i + 1)) = max (deeps (l.take i)) l[i].deep := by
  rw [List.take_succ_eq_append_getElem h, deeps_append]; simp [deeps]
theorem longs_succ {l : List Val} {i : Nat} (h : i < l.length) : longs (l.take (i + 1)) = max (longs (l.take i)) l[i].long := by
  rw [List.take_succ_eq_append_getElem h, longs_append]; simp [longs]
theorem szs_succ {l : List Val} {i : Nat} (h : i < l.length) : szs (l.take (i + 1)) = szs (l.take i) + l[i].sz := by
  rw [List.take_succ_eq_append_getElem h, szs_append]; simp [szs]
mutual
theorem deep_le : ∀ v : Val, v.deep ≤ v.sz
  | .mk _ _ _ ar _ => by have := deeps_le ar; rw [Val.deep, Val.sz]; omega
theorem deeps_le : ∀ l, deeps l ≤ szs l
  | [] => by simp [deeps]
  | v :: l => by have := deep_le v; have := deeps_le l; rw [deeps, szs]; omega
end
theorem maxN (a b : Nat) : (if (b : Int) > (a : Int) then (b : Int) else (a : Int)) = ((max a b : Nat) : Int) := by split <;> omega
theorem OkVal.long_le {v : Val} (h : OkVal v) : v.long ≤ bulk := by
  induction h with
  | mk hk hn ht hnl hl ha ih =>
    rw [long_eq]
    have : ∀ l : List Val, (∀ a ∈ l, a.long ≤ bulk) → longs l ≤ bulk := by
      intro l
      induction l with
      | nil => intro _; simp [longs]
      | cons v l ih2 => intro h; rw [longs]; exact Nat.max_le.2 ⟨h v (by simp), ih2 fun a ha => h a (by simp [ha])⟩
    exact Nat.max_le.2 ⟨ht, this _ ih⟩
theorem q_size0 : ∀ (n : Nat) (v : Val), v.sz ≤ n → oVal v → Quiet Tryz.prog 102 [.agg (cV v)] (.tup [.int .i64 v.sz, .int .i64 v.deep, .int .i64 v.long]) := by
  intro n
  induction n with
  | zero => intro v h; have := v.sz_eq; omega
  | succ n ih =>
    intro v hsz ho
    have hb : v.sz ≤ 1048576 := ho.2
    have hll : v.args.length ≤ 1048576 := ho.1.len
    have hse := v.sz_eq
    have hdl := deep_le v
    have hde := deep_eq v
    refine Quiet.weak fun G => ?_
    refine acall_body (rs := [.tmp 2, .tmp 3, .tmp 4]) Tryz.func102 rfl rfl Tryz.ntmps102 (by kernel_rfl) (Nat.le_of_ble_eq_true rfl) ?_
    refine aw_sr rfl ?_
    simp only [go_sem, reduceIte, Nat.reduceEqDiff, Nat.reduceAdd, Nat.reduceMul, Nat.reduceSub, Nat.reduceLeDiff, Nat.reduceLT, reduceCtorEq]
    intro b1 hb1
    refine aw_srd [(0,true),(1,true),(2,true),(3,true),(4,true),(5,true)] mixed rfl (by kernel_rfl) ?_
    simp only [go_sem, reduceIte, Nat.reduceEqDiff, Nat.reduceAdd, Nat.reduceMul, Nat.reduceSub, Nat.reduceLeDiff, Nat.reduceLT, reduceCtorEq]
    refine aw_seq fun K1 hK1 => ?_
    refine aw_sr rfl ?_
    simp only [go_sem, reduceIte, Nat.reduceEqDiff, Nat.reduceAdd, Nat.reduceMul, Nat.reduceSub, Nat.reduceLeDiff, Nat.reduceLT, reduceCtorEq]
    refine aw_range v.args.length (S := Unit) (fun i _ => [(17, .sl (v.args.map eVal) v.nl .no), (5, .int .i64 ((1 + szs (v.args.take i) : Nat) : Int)), (6, .int .i64 (deeps (v.args.take i) : Nat)), (7, .int .i64 ((max v.text.length (longs (v.args.take i)) : Nat) : Int))]) (fun _ _ => (b1, .vars (cV v)) :: G) (fun _ _ => True) () (by omega) ?_ (fun _ _ h => h) trivial rfl (fun _ _ => rfl) ?_ ?_ (by decide)
    · simp only [go_sem, reduceIte, Nat.reduceEqDiff, Nat.reduceAdd, Nat.reduceMul, Nat.reduceSub, Nat.reduceLeDiff, Nat.reduceLT, reduceCtorEq, Int.natCast_zero, List.take_zero, szs, deeps, longs, Nat.max_zero, Nat.add_zero, Int.natCast_one]
    · intro i _ hi _
      have ha := List.getElem_mem hi
      have h1 := szs_take v.args (i + 1)
      rw [szs_succ hi] at h1
      refine aw_sr rfl ?_
      simp only [go_sem, reduceIte, Nat.reduceEqDiff, Nat.reduceAdd, Nat.reduceMul, Nat.reduceSub, Nat.reduceLeDiff, Nat.reduceLT, reduceCtorEq, getD_map hi, eC, cV]
      refine ⟨⟨by omega, by omega, wid_eVal _⟩, fun b9 hb9 => ?_⟩
      refine aw_sr rfl ?_
      simp only [go_sem, reduceIte, Nat.reduceEqDiff, Nat.reduceAdd, Nat.reduceMul, Nat.reduceSub, Nat.reduceLeDiff, Nat.reduceLT, reduceCtorEq]
      refine goA_q (ih v.args[i] (by have := Val.sz_args ha; omega) (ho.arg ha)) ?_
      simp only [go_sem, reduceIte, Nat.reduceEqDiff, Nat.reduceAdd, Nat.reduceMul, Nat.reduceSub, Nat.reduceLeDiff, Nat.reduceLT, reduceCtorEq]
      refine aw_rg rfl ?_
      have hw : IntKind.i64.wrap (((1 + szs (v.args.take i) : Nat) : Int) + (v.args[i].sz : Int)) = ((1 + szs (v.args.take (i + 1)) : Nat) : Int) := by
        rw [wrap64 (by omega) (by omega), szs_succ hi]; omega
      simp only [go_sem, reduceIte, Nat.reduceEqDiff, Nat.reduceAdd, Nat.reduceMul, Nat.reduceSub, Nat.reduceLeDiff, Nat.reduceLT, reduceCtorEq, hw, maxN]
      refine ⟨(), ?_, sub_tail hb9⟩
      simp only [go_sem, reduceIte, Nat.reduceEqDiff, Nat.reduceAdd, Nat.reduceMul, Nat.reduceSub, Nat.reduceLeDiff, Nat.reduceLT, reduceCtorEq, deeps_succ hi, longs_succ hi, Nat.max_assoc]
    · intro _ _
      refine hK1 _ _ ?_
      refine aw_sr rfl ?_
      have hw : IntKind.i64.wrap (((deeps (v.args.take v.args.length) : Nat) : Int) + 1) = (v.deep : Int) := by
        rw [List.take_length, wrap64 (by omega) (by omega)]; omega
      simp only [go_sem, reduceIte, Nat.reduceEqDiff, Nat.reduceAdd, Nat.reduceMul, Nat.reduceSub, Nat.reduceLeDiff, Nat.reduceLT, reduceCtorEq, hw]
      refine aw_ret ⟨trivial, _, rfl, ?_, sub_tail hb1⟩
      rw [List.take_length, long_eq, hse]
      exact Vle.refl _
/-- May a value be, but for those within it? -/
def nodeV (v : Val) : Bool :=
  if v.kind = 1 then decide (v.num = 0) && decide (v.text = []) && decide ((v.args.length : Int) = 0)
  else if v.kind = 2 ∨ v.kind = 6 then decide (v.text = []) && decide ((v.args.length : Int) = 0)
  else if v.kind = 3 then (decide (v.num = 0) || decide (v.num = 1)) && decide (v.text = []) && decide ((v.args.length : Int) = 0)
  else if v.kind = 4 then decide (v.num = 0) && decide ((v.args.length : Int) = 0)
  else if v.kind = 5 then decide (v.num = 0) && !decide (v.text = [])
  else if v.kind = 7 then true
  else if v.kind = 8 then decide (v.num = 0) && decide (v.text = []) && decide ((v.args.length : Int) ≤ 1)
  else false
theorem q_node (v : Val) : Quiet Tryz.prog 104 [.agg (cV v)] (.bool (nodeV v)) := by
  refine Quiet.weak fun G => ?_
  refine acall_body (rs := [.tmp 2]) Tryz.func104 rfl rfl Tryz.ntmps104 (by kernel_rfl) (Nat.le_of_ble_eq_true rfl) ?_
  refine aw_sr rfl ?_
  simp only [go_sem, reduceIte, Nat.reduceEqDiff, Nat.reduceAdd, Nat.reduceMul, Nat.reduceSub, Nat.reduceLeDiff, Nat.reduceLT, reduceCtorEq]
  intro b1 hb1
  refine aw_srd [(0,true),(1,true),(2,true),(3,true),(4,true),(5,true),(6,true),(7,true),(8,true),(9,true),(10,true),(11,true)] mixed rfl (by kernel_rfl) ?_
  simp only [go_sem, reduceIte, Nat.reduceEqDiff, Nat.reduceAdd, Nat.reduceMul, Nat.reduceSub, Nat.reduceLeDiff, Nat.reduceLT, reduceCtorEq]
  refine aw_seq fun K1 hK1 => ?_
  refine aw_sr rfl ?_
  simp only [go_sem, reduceIte, Nat.reduceEqDiff, Nat.reduceAdd, Nat.reduceMul, Nat.reduceSub, Nat.reduceLeDiff, Nat.reduceLT, reduceCtorEq]
  refine aw_block ?_
  refine aw_sr rfl ?_
  simp only [go_sem, reduceIte, Nat.reduceEqDiff, Nat.reduceAdd, Nat.reduceMul, Nat.reduceSub, Nat.reduceLeDiff, Nat.reduceLT, reduceCtorEq]
  refine aw_if rfl (fun h => ?_) (fun h => ?_)
  · have k1 : v.kind = 1 := by simpa using h
    refine aw_sr rfl ?_
    simp only [go_sem, reduceIte, Nat.reduceEqDiff, Nat.reduceAdd, Nat.reduceMul, Nat.reduceSub, Nat.reduceLeDiff, Nat.reduceLT, reduceCtorEq]
    refine aw_ret ⟨trivial, _, rfl, ?_, sub_tail hb1⟩
    rw [nodeV, if_pos k1]
    exact Vle.refl _
  have k1 : ¬ v.kind = 1 := by simpa using h
  refine aw_mid (fun f' G' => FSub [(27, .bool (decide (v.kind = 2) || decide (v.kind = 6))), (16, .int .i64 v.kind), (3, .bool (decide (v.num = 0))), (4, .bool (decide (v.text = []))), (5, .int .i64 v.args.length), (1, .ptr b1 0)] f' ∧ G' = (b1, .vars (cV v)) :: G) ?_ ?_
  · refine aw_sr rfl ?_
    simp only [go_sem, reduceIte, Nat.reduceEqDiff, Nat.reduceAdd, Nat.reduceMul, Nat.reduceSub, Nat.reduceLeDiff, Nat.reduceLT, reduceCtorEq]
    refine aw_if rfl (fun h => ?_) (fun h => ?_)
    · refine aw_skip ⟨?_, rfl⟩
      simp only [go_sem, reduceIte, Nat.reduceEqDiff, Nat.reduceAdd, Nat.reduceMul, Nat.reduceSub, Nat.reduceLeDiff, Nat.reduceLT, reduceCtorEq, h, Bool.true_or]
    · refine aw_rg rfl ?_
      simp only [go_sem, reduceIte, Nat.reduceEqDiff, Nat.reduceAdd, Nat.reduceMul, Nat.reduceSub, Nat.reduceLeDiff, Nat.reduceLT, reduceCtorEq, h, Bool.false_or]
      refine ⟨?_, rfl⟩
      simp only [go_sem, reduceIte, Nat.reduceEqDiff, Nat.reduceAdd, Nat.reduceMul, Nat.reduceSub, Nat.reduceLeDiff, Nat.reduceLT, reduceCtorEq]
  · rintro f' G' ⟨hf, rfl⟩
    refine AW.of_fsub hf ?_
    refine aw_if rfl (fun h => ?_) (fun h => ?_)
    · have k2 : v.kind = 2 ∨ v.kind = 6 := by simpa using h
      refine aw_sr rfl ?_
      simp only [go_sem, reduceIte, Nat.reduceEqDiff, Nat.reduceAdd, Nat.reduceMul, Nat.reduceSub, Nat.reduceLeDiff, Nat.reduceLT, reduceCtorEq]
      refine aw_ret ⟨trivial, _, rfl, ?_, sub_tail hb1⟩
      rw [nodeV, if_neg k1, if_pos k2]
      exact Vle.refl _
    have k2 : ¬ (v.kind = 2 ∨ v.kind = 6) := by
      intro e
      have h' : decide (v.kind = 2) = false ∧ decide (v.kind = 6) = false := by simpa using h
      simp only [decide_eq_false_iff_not] at h'
      omega
    refine aw_sr rfl ?_
    simp only [go_sem, reduceIte, Nat.reduceEqDiff, Nat.reduceAdd, Nat.reduceMul, Nat.reduceSub, Nat.reduceLeDiff, Nat.reduceLT, reduceCtorEq]
    refine aw_if rfl (fun h => ?_) (fun h => ?_)
    · have k3 : v.kind = 3 := by simpa using h
      refine aw_sr rfl ?_
      simp only [go_sem, reduceIte, Nat.reduceEqDiff, Nat.reduceAdd, Nat.reduceMul, Nat.reduceSub, Nat.reduceLeDiff, Nat.reduceLT, reduceCtorEq]
      refine aw_ret ⟨trivial, _, rfl, ?_, sub_tail hb1⟩
      rw [nodeV, if_neg k1, if_neg k2, if_pos k3]
      exact Vle.refl _
    have k3 : ¬ v.kind = 3 := by simpa using h
    refine aw_sr rfl ?_
    simp only [go_sem, reduceIte, Nat.reduceEqDiff, Nat.reduceAdd, Nat.reduceMul, Nat.reduceSub, Nat.reduceLeDiff, Nat.reduceLT, reduceCtorEq]
    refine aw_if rfl (fun h => ?_) (fun h => ?_)
    · have k4 : v.kind = 4 := by simpa using h
      refine aw_sr rfl ?_
      simp only [go_sem, reduceIte, Nat.reduceEqDiff, Nat.reduceAdd, Nat.reduceMul, Nat.reduceSub, Nat.reduceLeDiff, Nat.reduceLT, reduceCtorEq]
      refine aw_ret ⟨trivial, _, rfl, ?_, sub_tail hb1⟩
      rw [nodeV, if_neg k1, if_neg k2, if_neg k3, if_pos k4]
      exact Vle.refl _
    have k4 : ¬ v.kind = 4 := by simpa using h
    refine aw_sr rfl ?_
    simp only [go_sem, reduceIte, Nat.reduceEqDiff, Nat.reduceAdd, Nat.reduceMul, Nat.reduceSub, Nat.reduceLeDiff, Nat.reduceLT, reduceCtorEq]
    refine aw_if rfl (fun h => ?_) (fun h => ?_)
    · have k5 : v.kind = 5 := by simpa using h
      refine aw_sr rfl ?_
      simp only [go_sem, reduceIte, Nat.reduceEqDiff, Nat.reduceAdd, Nat.reduceMul, Nat.reduceSub, Nat.reduceLeDiff, Nat.reduceLT, reduceCtorEq]
      refine aw_ret ⟨trivial, _, rfl, ?_, sub_tail hb1⟩
      rw [nodeV, if_neg k1, if_neg k2, if_neg k3, if_neg k4, if_pos k5]
      exact Vle.refl _
    have k5 : ¬ v.kind = 5 := by simpa using h
    refine aw_sr rfl ?_
    simp only [go_sem, reduceIte, Nat.reduceEqDiff, Nat.reduceAdd, Nat.reduceMul, Nat.reduceSub, Nat.reduceLeDiff, Nat.reduceLT, reduceCtorEq]
    refine aw_if rfl (fun h => ?_) (fun h => ?_)
    · have k7 : v.kind = 7 := by simpa using h
      refine aw_sr rfl ?_
      simp only [go_sem, reduceIte, Nat.reduceEqDiff, Nat.reduceAdd, Nat.reduceMul, Nat.reduceSub, Nat.reduceLeDiff, Nat.reduceLT, reduceCtorEq]
      refine aw_ret ⟨trivial, _, rfl, ?_, sub_tail hb1⟩
      rw [nodeV, if_neg k1, if_neg k2, if_neg k3, if_neg k4, if_neg k5, if_pos k7]
      exact Vle.refl _
    have k7 : ¬ v.kind = 7 := by simpa using h
    refine aw_sr rfl ?_
    simp only [go_sem, reduceIte, Nat.reduceEqDiff, Nat.reduceAdd, Nat.reduceMul, Nat.reduceSub, Nat.reduceLeDiff, Nat.reduceLT, reduceCtorEq]
    refine aw_if rfl (fun h => ?_) (fun h => ?_)
    · have k8 : v.kind = 8 := by simpa using h
      refine aw_sr rfl ?_
      simp only [go_sem, reduceIte, Nat.reduceEqDiff, Nat.reduceAdd, Nat.reduceMul, Nat.reduceSub, Nat.reduceLeDiff, Nat.reduceLT, reduceCtorEq]
      refine aw_ret ⟨trivial, _, rfl, ?_, sub_tail hb1⟩
      rw [nodeV, if_neg k1, if_neg k2, if_neg k3, if_neg k4, if_neg k5, if_neg k7, if_pos k8]
      exact Vle.refl _
    have k8 : ¬ v.kind = 8 := by simpa using h
    refine aw_skip (hK1 _ _ ?_)
    refine aw_sr rfl ?_
    simp only [go_sem, reduceIte, Nat.reduceEqDiff, Nat.reduceAdd, Nat.reduceMul, Nat.reduceSub, Nat.reduceLeDiff, Nat.reduceLT, reduceCtorEq]
    refine aw_ret ⟨trivial, _, rfl, ?_, sub_tail hb1⟩
    rw [nodeV, if_neg k1, if_neg k2, if_neg k3, if_neg k4, if_neg k5, if_neg k7, if_neg k8]
    exact Vle.refl _
mutual
/-- May a value be, and all within it? -/
def rightV : Val → Bool | .mk k n t ar nl => nodeV (.mk k n t ar nl) && rightVs ar
def rightVs : List Val → Bool | [] => true | v :: vs => rightV v && rightVs vs
end
theorem rightVs_all : ∀ l, rightVs l = l.all rightV
  | [] => rfl
  | v :: l => by rw [rightVs, rightVs_all l, List.all_cons]
theorem rightV_eq (v : Val) : rightV v = (nodeV v && v.args.all rightV) := by cases v; rw [rightV, rightVs_all]; rfl
theorem q_right0 : ∀ (n : Nat) (v : Val), v.sz ≤ n → OkVal v → Quiet Tryz.prog 103 [.agg (cV v)] (.bool (rightV v)) := by
  intro n
  induction n with
  | zero => intro v h; have := v.sz_eq; omega
  | succ n ih =>
    intro v hsz ho
    have hll : v.args.length ≤ 1048576 := ho.len
    refine Quiet.weak fun G => ?_
    refine acall_body (rs := [.tmp 2]) Tryz.func103 rfl rfl Tryz.ntmps103 (by kernel_rfl) (Nat.le_of_ble_eq_true rfl) ?_
    refine aw_sr rfl ?_
    simp only [go_sem, reduceIte, Nat.reduceEqDiff, Nat.reduceAdd, Nat.reduceMul, Nat.reduceSub, Nat.reduceLeDiff, Nat.reduceLT, reduceCtorEq]
    intro b1 hb1
    refine aw_seq fun K1 hK1 => ?_
    refine aw_sr rfl ?_
    simp only [go_sem, reduceIte, Nat.reduceEqDiff, Nat.reduceAdd, Nat.reduceMul, Nat.reduceSub, Nat.reduceLeDiff, Nat.reduceLT, reduceCtorEq]
    refine goA_q (q_node v) ?_
    simp only [go_sem, reduceIte, Nat.reduceEqDiff, Nat.reduceAdd, Nat.reduceMul, Nat.reduceSub, Nat.reduceLeDiff, Nat.reduceLT, reduceCtorEq]
    refine aw_if rfl (fun h => ?_) (fun h => ?_)
    · refine aw_sr rfl ?_
      simp only [go_sem, reduceIte, Nat.reduceEqDiff, Nat.reduceAdd, Nat.reduceMul, Nat.reduceSub, Nat.reduceLeDiff, Nat.reduceLT, reduceCtorEq]
      refine aw_ret ⟨trivial, _, rfl, ?_, sub_tail hb1⟩
      have h : nodeV v = false := by simpa using h
      rw [rightV_eq, h]
      exact Vle.refl _
    have hnode : nodeV v = true := by simpa using h
    refine aw_skip (hK1 _ _ ?_)
    refine aw_seq fun K2 hK2 => ?_
    refine aw_sr rfl ?_
    simp only [go_sem, reduceIte, Nat.reduceEqDiff, Nat.reduceAdd, Nat.reduceMul, Nat.reduceSub, Nat.reduceLeDiff, Nat.reduceLT, reduceCtorEq]
    refine aw_range v.args.length (S := Unit) (fun _ _ => [(9, .sl (v.args.map eVal) v.nl .no)]) (fun _ _ => (b1, .vars (cV v)) :: G) (fun i _ => (v.args.take i).all rightV = true) () (by omega) ?_ (fun _ _ h => h) rfl rfl (fun _ _ => rfl) ?_ ?_ (by decide)
    · simp only [go_sem, reduceIte, Nat.reduceEqDiff, Nat.reduceAdd, Nat.reduceMul, Nat.reduceSub, Nat.reduceLeDiff, Nat.reduceLT, reduceCtorEq, Int.natCast_zero]
    · intro i _ hi he
      have ha := List.getElem_mem hi
      refine aw_sr rfl ?_
      simp only [go_sem, reduceIte, Nat.reduceEqDiff, Nat.reduceAdd, Nat.reduceMul, Nat.reduceSub, Nat.reduceLeDiff, Nat.reduceLT, reduceCtorEq, getD_map hi, eC, cV]
      refine ⟨⟨by omega, by omega, wid_eVal _⟩, fun b4 hb4 => ?_⟩
      refine aw_sr rfl ?_
      simp only [go_sem, reduceIte, Nat.reduceEqDiff, Nat.reduceAdd, Nat.reduceMul, Nat.reduceSub, Nat.reduceLeDiff, Nat.reduceLT, reduceCtorEq]
      refine goA_q (ih v.args[i] (by have := Val.sz_args ha; omega) (ho.arg ha)) ?_
      simp only [go_sem, reduceIte, Nat.reduceEqDiff, Nat.reduceAdd, Nat.reduceMul, Nat.reduceSub, Nat.reduceLeDiff, Nat.reduceLT, reduceCtorEq]
      refine aw_if rfl (fun h => ?_) (fun h => ?_)
      · refine aw_sr rfl ?_
        simp only [go_sem, reduceIte, Nat.reduceEqDiff, Nat.reduceAdd, Nat.reduceMul, Nat.reduceSub, Nat.reduceLeDiff, Nat.reduceLT, reduceCtorEq]
        refine aw_ret ⟨trivial, _, rfl, ?_, sub_fresh (sub_none (sub_tail hb1) hb4) (sub_tail hb1)⟩
        rw [rightV_eq, all_not hi (by simpa using h), Bool.and_false]
        exact Vle.refl _
      · refine aw_skip ⟨(), all_take_next he hi (by simpa using h), ?_, sub_tail hb4⟩
        simp only [go_sem, reduceIte, Nat.reduceEqDiff, Nat.reduceAdd, Nat.reduceMul, Nat.reduceSub, Nat.reduceLeDiff, Nat.reduceLT, reduceCtorEq]
    · intro _ he
      rw [List.take_length] at he
      refine hK2 _ _ ?_
      refine aw_sr rfl ?_
      simp only [go_sem, reduceIte, Nat.reduceEqDiff, Nat.reduceAdd, Nat.reduceMul, Nat.reduceSub, Nat.reduceLeDiff, Nat.reduceLT, reduceCtorEq]
      refine aw_ret ⟨trivial, _, rfl, ?_, sub_tail hb1⟩
      rw [rightV_eq, hnode, he]
      exact Vle.refl _
def checkV (v : Val) : Int := if ((decide (v.sz > 400) || decide (v.deep > 40)) || decide (v.long > 4000)) = true then 2 else if rightV v = false then 3 else 0
theorem q_valCheck (v : Val) (ho : oVal v) : Quiet Tryz.prog 100 [.agg (cV v)] (.int .i64 (checkV v)) := by
  have hq := q_size0 _ v (Nat.le_refl _) ho
  have hr := q_right0 _ v (Nat.le_refl _) ho.1
  refine Quiet.weak fun G => ?_
  refine acall_body (rs := [.tmp 2]) Tryz.func100 rfl rfl Tryz.ntmps100 (by kernel_rfl) (Nat.le_of_ble_eq_true rfl) ?_
  refine aw_sr rfl ?_
  simp only [go_sem, reduceIte, Nat.reduceEqDiff, Nat.reduceAdd, Nat.reduceMul, Nat.reduceSub, Nat.reduceLeDiff, Nat.reduceLT, reduceCtorEq]
  intro b1 hb1
  refine aw_seq fun K1 hK1 => ?_
  refine aw_sr rfl ?_
  simp only [go_sem, reduceIte, Nat.reduceEqDiff, Nat.reduceAdd, Nat.reduceMul, Nat.reduceSub, Nat.reduceLeDiff, Nat.reduceLT, reduceCtorEq]
  refine goA_q hq ?_
  simp only [go_sem, reduceIte, Nat.reduceEqDiff, Nat.reduceAdd, Nat.reduceMul, Nat.reduceSub, Nat.reduceLeDiff, Nat.reduceLT, reduceCtorEq]
  refine aw_sr rfl ?_
  simp only [go_sem, reduceIte, Nat.reduceEqDiff, Nat.reduceAdd, Nat.reduceMul, Nat.reduceSub, Nat.reduceLeDiff, Nat.reduceLT, reduceCtorEq]
  have hc : (decide ((400 : Int) < (v.sz : Int)) || decide ((40 : Int) < (v.deep : Int)) || decide ((4000 : Int) < (v.long : Int))) = ((decide (v.sz > 400) || decide (v.deep > 40)) || decide (v.long > 4000)) := by
    congr 1
    · congr 1
      · exact decide_eq_decide.2 (by omega)
      · exact decide_eq_decide.2 (by omega)
    · exact decide_eq_decide.2 (by omega)
  refine aw_if rfl (fun h => ?_) (fun h => ?_)
  · refine aw_sr rfl ?_
    simp only [go_sem, reduceIte, Nat.reduceEqDiff, Nat.reduceAdd, Nat.reduceMul, Nat.reduceSub, Nat.reduceLeDiff, Nat.reduceLT, reduceCtorEq]
    refine aw_ret ⟨trivial, _, rfl, ?_, sub_tail hb1⟩
    rw [checkV, if_pos (hc.symm.trans h)]
    exact Vle.refl _
  have h2 : ¬ ((decide (v.sz > 400) || decide (v.deep > 40)) || decide (v.long > 4000)) = true := by rw [← hc]; intro e; rw [e] at h; cases h
  refine aw_skip (hK1 _ _ ?_)
  refine aw_seq fun K2 hK2 => ?_
  refine aw_sr rfl ?_
  simp only [go_sem, reduceIte, Nat.reduceEqDiff, Nat.reduceAdd, Nat.reduceMul, Nat.reduceSub, Nat.reduceLeDiff, Nat.reduceLT, reduceCtorEq]
  refine goA_q hr ?_
  simp only [go_sem, reduceIte, Nat.reduceEqDiff, Nat.reduceAdd, Nat.reduceMul, Nat.reduceSub, Nat.reduceLeDiff, Nat.reduceLT, reduceCtorEq]
  refine aw_if rfl (fun h => ?_) (fun h => ?_)
  · refine aw_sr rfl ?_
    simp only [go_sem, reduceIte, Nat.reduceEqDiff, Nat.reduceAdd, Nat.reduceMul, Nat.reduceSub, Nat.reduceLeDiff, Nat.reduceLT, reduceCtorEq]
    refine aw_ret ⟨trivial, _, rfl, ?_, sub_tail hb1⟩
    rw [checkV, if_neg h2, if_pos (by simpa using h)]
    exact Vle.refl _
  · refine aw_skip (hK2 _ _ ?_)
    refine aw_sr rfl ?_
    simp only [go_sem, reduceIte, Nat.reduceEqDiff, Nat.reduceAdd, Nat.reduceMul, Nat.reduceSub, Nat.reduceLeDiff, Nat.reduceLT, reduceCtorEq]
    refine aw_ret ⟨trivial, _, rfl, ?_, sub_tail hb1⟩
    rw [checkV, if_neg h2, if_neg (by simpa using h)]
    exact Vle.refl _
end Go.Proofs.YtlgfffngojlffaaGreat

set_option linter.unusedSimpArgs false
set_option linter.unusedVariables false
namespace Go.Proofs.YtlgfffngojlffaaGreat
open Go.Proofs.YtlgfffngojlffaaGreatV
set_option maxHeartbeats 400000
set_option maxRecDepth 100000
mutual
theorem encV_le {L : Nat} : ∀ v : Val, OkVal v → v.long ≤ L → (encV v).length ≤ v.sz * (31 + L)
  | .mk k n t ar nl, ho, h => by
    have hlong := long_eq (.mk k n t ar nl)
    have hnum := natB_numN ho.num
    have htx : t.length ≤ 1048576 := ho.text
    have har : ar.length ≤ 1048576 := ho.len
    have h1 := natB_len64 (n := t.length) (by omega)
    have h2 := natB_len64 (n := ar.length) (by omega)
    have ht : t.length ≤ L := by have : t.length ≤ (Val.mk k n t ar nl).long := by rw [hlong]; exact Nat.le_max_left _ _
                                 omega
    have hla : longs ar ≤ (Val.mk k n t ar nl).long := by rw [hlong]; exact Nat.le_max_right _ _
    have ih := encVs_le (L := L) ar (fun a ha => ho.arg ha) (by omega)
    simp only [encV, textB, List.length_cons, List.length_append, Val.sz, Nat.add_mul, Nat.one_mul]
    simp only [Val.num] at hnum
    omega
theorem encVs_le {L : Nat} : ∀ l : List Val, (∀ v ∈ l, OkVal v) → longs l ≤ L → (encVs l).length ≤ szs l * (31 + L)
  | [], _, _ => by simp [encVs]
  | v :: l, ho, h => by
    rw [longs] at h
    have h1 := encV_le v (ho v (by simp)) (Nat.le_trans (Nat.le_max_left _ _) h)
    have h2 := encVs_le l (fun a ha => ho a (by simp [ha])) (Nat.le_trans (Nat.le_max_right _ _) h)
    simp only [encVs, szs, List.length_append, Nat.add_mul]
    omega
end
theorem check_small {v : Val} (h : checkV v = 0) : v.sz ≤ 400 ∧ v.deep ≤ 40 ∧ v.long ≤ 4000 ∧ rightV v = true := by
  unfold checkV at h
  split at h
  · cases h
  · rename_i h1
    split at h
    · cases h
    · rename_i h2
      simp only [Bool.or_eq_true, decide_eq_true_eq] at h1
      exact ⟨by omega, by omega, by omega, by simpa using h2⟩
theorem enc_small {v : Val} (ho : OkVal v) (h : checkV v = 0) : (encV v).length ≤ 2000000 := by
  obtain ⟨h1, _, h3, _⟩ := check_small h
  have := encV_le (L := 4000) v ho h3
  have : v.sz * (31 + 4000) ≤ 400 * (31 + 4000) := Nat.mul_le_mul_right _ h1
  omega
theorem encV_ne (v : Val) : encV v ≠ [] := by rw [encV_eq]; simp
def bytesF (v : Val) : (List UInt8 × Bool) × Int := if checkV v ≠ 0 then (([], true), checkV v) else ((encV v, false), 0)
abbrev pairB (p : (List UInt8 × Bool) × Int) : V := .tup [.sl (bytesV p.1.1) p.1.2 .no, .int .i64 p.2]
end Go.Proofs.YtlgfffngojlffaaGreat

/- Bytes that are read: a byte, a number, a length, a text. What stands there if it was written so; whatever else, some number. No conditions. -/
set_option linter.unusedSimpArgs false
set_option linter.unusedVariables false
namespace Go.Proofs.YtlgfffngojlffaaGreat
open Go.Proofs.YtlgfffngojlffaaGreatV
set_option maxHeartbeats 400000
set_option maxRecDepth 100000
/-! ### whole numbers, bit by bit -/
theorem wrapI_range (n : Int) : IntKind.i64.min ≤ IntKind.i64.wrap n ∧ IntKind.i64.wrap n ≤ IntKind.i64.max := by
  have h1 : IntKind.i64.min = -9223372036854775808 := rfl
  have h2 : IntKind.i64.max = 9223372036854775807 := rfl
  rw [h1, h2]
  unfold IntKind.wrap
  simp only [IntKind.bits, IntKind.signed]
  simp
  try omega
theorem bitsI_range (op : BinOp) (a b : Int) : IntKind.i64.min ≤ bits op IntKind.i64 a b ∧ bits op IntKind.i64 a b ≤ IntKind.i64.max := by
  unfold bits
  split <;> exact wrapI_range _
theorem and127 (c : UInt8) : bits BinOp.and IntKind.u8 ((c.toNat : Nat) : Int) 127 = ((c.toNat % 128 : Nat) : Int) := by
  have h := c.toNat_lt
  unfold bits
  simp only [show IntKind.u8.bits = 8 from rfl, BitVec.ofInt_natCast, BitVec.toNat_and, BitVec.toNat_ofNat]
  rw [show (BitVec.ofInt IntKind.u8.bits 127).toNat = 127 from rfl, Nat.mod_eq_of_lt (by omega), wrap_u8]
  have : c.toNat &&& 127 = c.toNat % 128 := Nat.and_two_pow_sub_one_eq_mod c.toNat 7
  rw [this]
  omega
theorem or_low {x y m : Nat} (hx : x < 2 ^ m) (h : y * 2 ^ m + x < 2 ^ 64) : bits BinOp.or IntKind.u64 ((x : Nat) : Int) ((y * 2 ^ m : Nat) : Int) = ((y * 2 ^ m + x : Nat) : Int) := by
  unfold bits
  simp only [show IntKind.u64.bits = 64 from rfl, BitVec.ofInt_natCast, BitVec.toNat_or, BitVec.toNat_ofNat]
  rw [Nat.mod_eq_of_lt (show x < 2 ^ 64 by omega), Nat.mod_eq_of_lt (show y * 2 ^ m < 2 ^ 64 by omega), Nat.or_comm]
  have := Nat.shiftLeft_add_eq_or_of_lt hx y
  rw [Nat.shiftLeft_eq] at this
  rw [← this, wrap_u64]
  have h64 : (2 : Nat) ^ 64 = 18446744073709551616 := rfl
  omega
theorem wrapU (z : Int) : ∃ n : Nat, IntKind.u64.wrap z = (n : Int) ∧ n < 18446744073709551616 := by
  rw [wrap_u64]; exact ⟨(z % 18446744073709551616).toNat, by omega, by omega⟩
theorem bitsU (op : BinOp) (a b : Int) : ∃ n : Nat, bits op IntKind.u64 a b = (n : Int) ∧ n < 18446744073709551616 := wrapU _
theorem sliceTag_no (a b c d : Nat) : sliceTag .no a b c d = .no := rfl
/-! ### a reader -/
/-- Where a reader stands. -/
def Rd (G : Heap) (br : Nat) (nl : Bool) (rest : List UInt8) (bad : Bool) (left : Int) : Prop := hget G br = some (.vars [.sl (bytesV rest) nl .no, .bool bad, .int .i64 left])
/-- All but one block is as it was. -/
def KB (br : Nat) (G G' : Heap) : Prop := ∀ b o, ¬ b = br → hget G b = some o → hget G' b = some o
theorem KB.refl (br : Nat) (G : Heap) : KB br G G := fun _ _ _ h => h
theorem KB.trans {br : Nat} {A B C : Heap} (h : KB br A B) (k : KB br B C) : KB br A C := fun b o hn q => k b o hn (h b o hn q)
theorem KB.hset (br : Nat) (G : Heap) (x : AObj) : KB br G (hset G br x) := fun b o hn h => hset_keep h hn
theorem KB.sub {br : Nat} {A B C : Heap} (h : KB br A B) (k : Sub B C) : KB br A C := fun b o hn q => k b o (h b o hn q)
theorem Rd.sub {G G' : Heap} {br : Nat} {nl : Bool} {rest : List UInt8} {bad : Bool} {left : Int} (h : Rd G br nl rest bad left) (hs : Sub G G') : Rd G' br nl rest bad left := hs _ _ h
def byteQ (br : Nat) (nl : Bool) (rest : List UInt8) (bad : Bool) (left : Int) (G : Heap) (y : V) (G' : Heap) : Prop :=
  ∃ (c : UInt8) (rest' : List UInt8) (bad' : Bool), y = .int .u8 ((c.toNat : Nat) : Int) ∧ Rd G' br nl rest' bad' left ∧ KB br G G' ∧ ((rest = [] ∧ rest' = [] ∧ bad' = true) ∨ (rest = c :: rest' ∧ bad' = bad))
theorem a_rbyte (br : Nat) (nl : Bool) (rest : List UInt8) (bad : Bool) (left : Int) (G : Heap) (hl : rest.length ≤ 1099511627776) (hG : Rd G br nl rest bad left) :
    ACall Tryz.prog 84 [.ptr br 0] (byteQ br nl rest bad left G) G := by
  have hG' : hget G br = some (.vars [.sl (bytesV rest) nl .no, .bool bad, .int .i64 left]) := hG
  refine acall_body (rs := [.tmp 2]) Tryz.func84 rfl rfl Tryz.ntmps84 (by kernel_rfl) (Nat.le_of_ble_eq_true rfl) ?_
  refine aw_sr rfl ?_  -- r0 @value.go:118
  simp only [go_sem, reduceIte, Nat.reduceEqDiff, Nat.reduceAdd, Nat.reduceMul, Nat.reduceSub, Nat.reduceLeDiff, Nat.reduceLT, reduceCtorEq]
  refine aw_seq fun K1 hK1 => ?_
  refine aw_sr rfl ?_  -- r1 @value.go:119
  simp only [go_sem, reduceIte, Nat.reduceEqDiff, Nat.reduceAdd, Nat.reduceMul, Nat.reduceSub, Nat.reduceLeDiff, Nat.reduceLT, reduceCtorEq, hG']
  cases rest with
  | nil =>
    refine aw_if rfl (fun h => ?_) (fun h => by simp at h)
    refine aw_sr rfl ?_  -- r2 @value.go:120
    simp only [go_sem, reduceIte, Nat.reduceEqDiff, Nat.reduceAdd, Nat.reduceMul, Nat.reduceSub, Nat.reduceLeDiff, Nat.reduceLT, reduceCtorEq, hG']
    refine aw_sr rfl ?_  -- r3 @value.go:121
    simp only [go_sem, reduceIte, Nat.reduceEqDiff, Nat.reduceAdd, Nat.reduceMul, Nat.reduceSub, Nat.reduceLeDiff, Nat.reduceLT, reduceCtorEq]
    exact aw_ret ⟨trivial, _, rfl, 0, [], true, rfl, hget_hset_self hG', KB.hset _ _ _, .inl ⟨rfl, rfl, rfl⟩⟩
  | cons c rest =>
    simp only [List.length_cons] at hl
    have hb : (bytesV (c :: rest)).getD 0 [] = [.int .u8 ((c.toNat : Nat) : Int)] := rfl
    refine aw_if rfl (fun h => by simp at h; omega) (fun h => ?_)
    refine aw_skip (hK1 _ _ ?_)
    refine aw_sr rfl ?_  -- r4 @value.go:123
    simp only [go_sem, reduceIte, Nat.reduceEqDiff, Nat.reduceAdd, Nat.reduceMul, Nat.reduceSub, Nat.reduceLeDiff, Nat.reduceLT, reduceCtorEq, hG', Int.toNat_zero, hb]
    refine ⟨⟨by omega, by simp [bytesV], wid_bytes _⟩, ?_⟩
    refine aw_sr rfl ?_  -- r5 @value.go:124
    simp only [go_sem, reduceIte, Nat.reduceEqDiff, Nat.reduceAdd, Nat.reduceMul, Nat.reduceSub, Nat.reduceLeDiff, Nat.reduceLT, reduceCtorEq, hG', toNat1, List.take_length, sliceTag_no]
    refine ⟨⟨⟨by omega, by omega⟩, wid_bytes _⟩, ?_⟩
    refine aw_sr rfl ?_  -- r6 @value.go:125
    simp only [go_sem, reduceIte, Nat.reduceEqDiff, Nat.reduceAdd, Nat.reduceMul, Nat.reduceSub, Nat.reduceLeDiff, Nat.reduceLT, reduceCtorEq]
    exact aw_ret ⟨trivial, _, rfl, c, rest, bad, rfl, hget_hset_self hG', KB.hset _ _ _, .inr ⟨rfl, rfl⟩⟩
def natQ (br : Nat) (nl : Bool) (rest : List UInt8) (bad : Bool) (left : Int) (G : Heap) (y : V) (G' : Heap) : Prop :=
  ∃ (n : Nat) (rest' : List UInt8) (bad' : Bool), n < 18446744073709551616 ∧ y = .int .u64 (n : Nat) ∧ Rd G' br nl rest' bad' left ∧ KB br G G' ∧ rest'.length ≤ rest.length ∧
    ∀ (x : Nat) (r : List UInt8), rest = natB x ++ r → x < 18446744073709551616 → bad = false → n = x ∧ rest' = r ∧ bad' = false
theorem mod_step (x m : Nat) : x % 2 ^ (m + 7) = (x / 2 ^ m % 128) * 2 ^ m + x % 2 ^ m := by
  rw [Nat.pow_add, Nat.mod_mul, show (2 : Nat) ^ 7 = 128 from rfl, Nat.mul_comm]; omega
theorem mod_last {x m : Nat} (h : x / 2 ^ m < 128) : x = (x / 2 ^ m) * 2 ^ m + x % 2 ^ m := by
  rw [Nat.mul_comm]; exact (Nat.div_add_mod x (2 ^ m)).symm
theorem nat_step {q : Nat} {c : UInt8} {rs r : List UInt8} (h : c :: rs = natB q ++ r) : (c.toNat < 128 ∧ q < 128 ∧ c.toNat % 128 = q % 128 ∧ rs = r) ∨ (¬ c.toNat < 128 ∧ ¬ q < 128 ∧ c.toNat % 128 = q % 128 ∧ rs = natB (q / 128) ++ r) := by
  by_cases hq : q < 128
  · rw [natB_small hq] at h
    simp only [List.cons_append, List.nil_append, List.cons.injEq] at h
    obtain ⟨rfl, rfl⟩ := h
    left
    have : (UInt8.ofNat q).toNat = q := by simp [UInt8.toNat_ofNat']; omega
    rw [this]
    exact ⟨hq, hq, rfl, rfl⟩
  · rw [natB_big hq] at h
    simp only [List.cons_append, List.cons.injEq] at h
    obtain ⟨rfl, rfl⟩ := h
    right
    have : (UInt8.ofNat (q % 128 + 128)).toNat = q % 128 + 128 := by simp [UInt8.toNat_ofNat']; omega
    rw [this]
    exact ⟨by omega, hq, by omega, rfl⟩
theorem nat_bits {x k c n : Nat} (hx : x < 18446744073709551616) (hk : k < 10) (hc : c = x / 2 ^ (7 * k) % 128) (hn : n = x % 2 ^ (7 * k)) :
    bits BinOp.or IntKind.u64 (n : Int) (IntKind.u64.wrap (IntKind.u64.wrap ((c : Nat) : Int) * 2 ^ (Nat.min (7 * k) 64))) = ((x % 2 ^ (7 * (k + 1)) : Nat) : Int) := by
  have e := mod_step x (7 * k)
  have hle := Nat.mod_le x (2 ^ (7 * k + 7))
  have hm : Nat.min (7 * k) 64 = 7 * k := Nat.min_eq_left (by omega)
  have hc8 : c < 128 := by rw [hc]; exact Nat.mod_lt _ (by decide)
  have hw : IntKind.u64.wrap ((c : Nat) : Int) = ((c : Nat) : Int) := by rw [wrap_u64]; omega
  have hlow := Nat.mod_lt x (show 0 < 2 ^ (7 * k) from Nat.pow_pos (by decide))
  have hw2 : IntKind.u64.wrap (((c * 2 ^ (7 * k) : Nat) : Int)) = ((c * 2 ^ (7 * k) : Nat) : Int) := by
    rw [wrap_u64]
    have : c * 2 ^ (7 * k) ≤ x := by rw [← hc] at e; omega
    generalize c * 2 ^ (7 * k) = z at *
    omega
  have hp : ((c : Nat) : Int) * 2 ^ (7 * k) = ((c * 2 ^ (7 * k) : Nat) : Int) := by rw [Int.natCast_mul, Int.natCast_pow]; rfl
  rw [hw, hm, hp, hw2, hn, or_low hlow (by rw [hc, ← e]; exact Nat.lt_of_le_of_lt hle hx), hc, ← e, Nat.mul_add]
theorem a_rnatural (br : Nat) (nl : Bool) (rest : List UInt8) (bad : Bool) (left : Int) (G : Heap) (hl : rest.length ≤ 1099511627776) (hG : Rd G br nl rest bad left) :
    ACall Tryz.prog 53 [.ptr br 0] (natQ br nl rest bad left G) G := by
  refine acall_body (rs := [.tmp 2]) Tryz.func53 rfl rfl Tryz.ntmps53 (by kernel_rfl) (Nat.le_of_ble_eq_true rfl) ?_
  refine aw_sr rfl ?_  -- r0 @value.go:129
  simp only [go_sem, reduceIte, Nat.reduceEqDiff, Nat.reduceAdd, Nat.reduceMul, Nat.reduceSub, Nat.reduceLeDiff, Nat.reduceLT, reduceCtorEq]
  refine aw_sr rfl ?_  -- r1 @value.go:130
  simp only [go_sem, reduceIte, Nat.reduceEqDiff, Nat.reduceAdd, Nat.reduceMul, Nat.reduceSub, Nat.reduceLeDiff, Nat.reduceLT, reduceCtorEq]
  refine aw_seq fun K1 hK1 => ?_
  refine aw_sr rfl ?_  -- r2 @value.go:131
  simp only [go_sem, reduceIte, Nat.reduceEqDiff, Nat.reduceAdd, Nat.reduceMul, Nat.reduceSub, Nat.reduceLeDiff, Nat.reduceLT, reduceCtorEq]
  refine aw_block ?_  -- 0
  refine aw_lph (S := {s : Nat × Nat × List UInt8 × Bool × Heap // s.1 ≤ 10 ∧ s.2.1 < 18446744073709551616 ∧ Rd s.2.2.2.2 br nl s.2.2.1 s.2.2.2.1 left ∧ KB br G s.2.2.2.2 ∧ s.2.2.1.length ≤ rest.length ∧
      ∀ (x : Nat) (r : List UInt8), rest = natB x ++ r → x < 18446744073709551616 → bad = false → s.2.2.2.1 = false ∧ s.2.1 = x % 2 ^ (7 * s.1) ∧ s.2.2.1 = natB (x / 2 ^ (7 * s.1)) ++ r ∧ (s.1 = 0 ∨ 1 ≤ x / 2 ^ (7 * s.1))}) (fun s => [(0, .ptr br 0), (3, .int .u64 (s.1.2.1 : Nat)), (4, .int .i64 ((7 * s.1.1 : Nat) : Int))]) (fun s => s.1.2.2.2.2) (fun s => 10 - s.1.1)
    ⟨(0, 0, rest, bad, G), Nat.zero_le _, by show 0 < 18446744073709551616; omega, hG, KB.refl _ _, Nat.le_refl _, fun x r h1 h2 h3 => ⟨h3, by simp [Nat.mod_one], by simpa using h1, .inl rfl⟩⟩ ?_ (fun _ _ h => h) ?_
  · simp only [go_sem, reduceIte, Nat.reduceEqDiff, Nat.reduceAdd, Nat.reduceMul, Nat.reduceSub, Nat.reduceLeDiff, Nat.reduceLT, reduceCtorEq, Int.natCast_zero]
  intro ⟨⟨k, n, rs, bd, H⟩, hk, hn, hR, hKB, hrl, hcan⟩
  simp only at hk hn hR hKB hrl hcan ⊢
  have hR' : hget H br = some (.vars [.sl (bytesV rs) nl .no, .bool bd, .int .i64 left]) := hR
  refine aw_seq fun K2 hK2 => ?_
  refine aw_sr rfl ?_  -- r3 @value.go:131
  simp only [go_sem, reduceIte, Nat.reduceEqDiff, Nat.reduceAdd, Nat.reduceMul, Nat.reduceSub, Nat.reduceLeDiff, Nat.reduceLT, reduceCtorEq, hR']
  refine aw_if rfl (fun h => ?_) (fun h => ?_)
  · have hkb : k < 10 ∧ bd = false := by
      rw [Bool.and_eq_true] at h
      obtain ⟨q1, q2⟩ := h
      rw [decide_eq_true_eq] at q1
      exact ⟨by omega, by simpa using q2⟩
    obtain ⟨hk10, rfl⟩ := hkb
    refine aw_skip (hK2 _ _ ?_)
    refine aw_seq fun K3 hK3 => ?_
    refine aw_block ?_  -- 1
    refine aw_sr rfl ?_  -- r5 @value.go:132
    simp only [go_sem, reduceIte, Nat.reduceEqDiff, Nat.reduceAdd, Nat.reduceMul, Nat.reduceSub, Nat.reduceLeDiff, Nat.reduceLT, reduceCtorEq]
    refine goA_by (a_rbyte br nl rs false left H (by omega) hR) fun y G1 hy => ?_
    obtain ⟨c, rs', bd', rfl, hR1, hKB1, hc⟩ := hy
    simp only [go_sem, reduceIte, Nat.reduceEqDiff, Nat.reduceAdd, Nat.reduceMul, Nat.reduceSub, Nat.reduceLeDiff, Nat.reduceLT, reduceCtorEq]
    obtain ⟨n', hn', hn2⟩ := bitsU .or (n : Nat) (IntKind.u64.wrap (IntKind.u64.wrap ((c.toNat % 128 : Nat) : Int) * 2 ^ (Nat.min (7 * k) 64)))
    refine aw_sr rfl ?_  -- r6 @value.go:133
    simp only [go_sem, reduceIte, Nat.reduceEqDiff, Nat.reduceAdd, Nat.reduceMul, Nat.reduceSub, Nat.reduceLeDiff, Nat.reduceLT, reduceCtorEq, and127]
    refine ⟨by omega, ?_⟩
    rw [hn']
    refine aw_sr rfl ?_  -- r7 @value.go:134
    simp only [go_sem, reduceIte, Nat.reduceEqDiff, Nat.reduceAdd, Nat.reduceMul, Nat.reduceSub, Nat.reduceLeDiff, Nat.reduceLT, reduceCtorEq]
    refine aw_if rfl (fun h => ?_) (fun h => ?_)
    · refine aw_sr rfl ?_  -- r8 @value.go:135
      simp only [go_sem, reduceIte, Nat.reduceEqDiff, Nat.reduceAdd, Nat.reduceMul, Nat.reduceSub, Nat.reduceLeDiff, Nat.reduceLT, reduceCtorEq]
      refine aw_ret ⟨trivial, _, rfl, n', rs', bd', hn2, rfl, hR1, hKB.trans hKB1, ?_, ?_⟩
      · rcases hc with ⟨q1, q2, q3⟩ | ⟨q1, q2⟩
        · rw [q2]; exact Nat.zero_le _
        · rw [q1, List.length_cons] at hrl; omega
      · intro x r h1 h2 h3
        obtain ⟨p1, p2, p3, p4⟩ := hcan x r h1 h2 h3
        rcases hc with ⟨q1, q2, q3⟩ | ⟨q1, q2⟩
        · exfalso
          rw [q1] at p3
          have := congrArg List.length p3
          have hp := natB_pos (x / 2 ^ (7 * k))
          simp only [List.length_nil, List.length_append] at this
          omega
        · rw [q1] at p3
          rcases nat_step p3 with ⟨o1, o2, o3, o4⟩ | ⟨o1, o2, o3, o4⟩
          · rw [nat_bits h2 hk10 o3 p2] at hn'
            refine ⟨?_, o4, q2⟩
            have : x % 2 ^ (7 * (k + 1)) = x := by
              have q := (Nat.div_lt_iff_lt_mul (Nat.pow_pos (n := 7 * k) (show 0 < 2 by decide))).1 o2
              apply Nat.mod_eq_of_lt
              rw [show 7 * (k + 1) = 7 * k + 7 from by omega, Nat.pow_add, Nat.mul_comm]
              exact q
            omega
          · simp only [decide_eq_true_eq] at h; omega
    refine aw_skip (hK3 _ _ ?_)
    refine aw_rg rfl ?_  -- r4 @value.go:131
    simp only [go_sem, reduceIte, Nat.reduceEqDiff, Nat.reduceAdd, Nat.reduceMul, Nat.reduceSub, Nat.reduceLeDiff, Nat.reduceLT, reduceCtorEq]
    refine ⟨⟨(k + 1, n', rs', bd', G1), by show k + 1 ≤ 10; omega, hn2, hR1, hKB.trans hKB1, ?_, ?_⟩, by show 10 - (k + 1) < 10 - k; omega, ⟨rfl, rfl, ?_⟩, fun _ _ h => h⟩
    · rcases hc with ⟨q1, q2, q3⟩ | ⟨q1, q2⟩
      · show rs'.length ≤ _; rw [q2]; exact Nat.zero_le _
      · rw [q1, List.length_cons] at hrl; show rs'.length ≤ _; omega
    · intro x r h1 h2 h3
      obtain ⟨p1, p2, p3, p4⟩ := hcan x r h1 h2 h3
      rcases hc with ⟨q1, q2, q3⟩ | ⟨q1, q2⟩
      · exfalso
        rw [q1] at p3
        have := congrArg List.length p3
        have hp := natB_pos (x / 2 ^ (7 * k))
        simp only [List.length_nil, List.length_append] at this
        omega
      · rw [q1] at p3
        rcases nat_step p3 with ⟨o1, o2, o3, o4⟩ | ⟨o1, o2, o3, o4⟩
        · simp only [decide_eq_false_iff_not] at h; omega
        · rw [nat_bits h2 hk10 o3 p2] at hn'
          have hd : x / 2 ^ (7 * (k + 1)) = x / 2 ^ (7 * k) / 128 := by
            rw [show 7 * (k + 1) = 7 * k + 7 from by omega, Nat.pow_add, ← Nat.div_div_eq_div_mul]
          refine ⟨q2, by show n' = x % 2 ^ (7 * (k + 1)); omega, ?_, .inr ?_⟩
          · show rs' = natB (x / 2 ^ (7 * (k + 1))) ++ r
            rw [hd]; exact o4
          · show 1 ≤ x / 2 ^ (7 * (k + 1))
            rw [hd]; omega
    · show some (V.int .i64 (IntKind.i64.wrap (((7 * k : Nat) : Int) + 7))) = some (V.int .i64 ((7 * (k + 1) : Nat) : Int))
      rw [wrap64 (by omega) (by omega)]; congr 2
  · refine aw_exit ?_  -- 0
    refine hK1 _ _ ?_
    refine aw_sr rfl ?_  -- r9 @value.go:138
    simp only [go_sem, reduceIte, Nat.reduceEqDiff, Nat.reduceAdd, Nat.reduceMul, Nat.reduceSub, Nat.reduceLeDiff, Nat.reduceLT, reduceCtorEq, hR']
    refine aw_sr rfl ?_  -- r10 @value.go:139
    simp only [go_sem, reduceIte, Nat.reduceEqDiff, Nat.reduceAdd, Nat.reduceMul, Nat.reduceSub, Nat.reduceLeDiff, Nat.reduceLT, reduceCtorEq]
    refine aw_ret ⟨trivial, _, rfl, 0, rs, true, by omega, rfl, hget_hset_self hR', hKB.trans (KB.hset _ _ _), hrl, ?_⟩
    intro x r h1 h2 h3
    obtain ⟨p1, p2, p3, p4⟩ := hcan x r h1 h2 h3
    exfalso
    rw [p1] at h
    have hk10 : k = 10 := by
      by_cases hlt : ((7 * k : Nat) : Int) < 70
      · rw [decide_eq_true hlt] at h; exact absurd h (by decide)
      · omega
    rw [hk10] at p4
    rw [Nat.div_eq_of_lt (show x < 2 ^ (7 * 10) from Nat.lt_trans h2 (by decide))] at p4
    omega
end Go.Proofs.YtlgfffngojlffaaGreat

/- A number, a length, a text that are read. No conditions. -/
set_option linter.unusedSimpArgs false
set_option linter.unusedVariables false
namespace Go.Proofs.YtlgfffngojlffaaGreat
open Go.Proofs.YtlgfffngojlffaaGreatV
set_option maxHeartbeats 400000
set_option maxRecDepth 100000
theorem and_one {n : Nat} (h : n < 18446744073709551616) : bits BinOp.and IntKind.u64 ((n : Nat) : Int) 1 = ((n % 2 : Nat) : Int) := by
  unfold bits
  simp only [show IntKind.u64.bits = 64 from rfl, BitVec.ofInt_natCast, BitVec.toNat_and, BitVec.toNat_ofNat]
  rw [show (BitVec.ofInt IntKind.u64.bits 1).toNat = 1 from rfl, Nat.mod_eq_of_lt (show n < 2 ^ 64 from h), wrap_u64]
  have : n &&& 1 = n % 2 := Nat.and_two_pow_sub_one_eq_mod n 1
  rw [this]
  omega
theorem xorI_zero {a : Nat} (h : a < 9223372036854775808) : bits BinOp.xor IntKind.i64 (a : Int) 0 = (a : Int) := by
  have e : (BitVec.ofInt 64 (a : Int) ^^^ BitVec.ofInt 64 0).toNat = a := by
    have : BitVec.ofInt 64 0 = 0#64 := rfl
    rw [this, BitVec.xor_zero, BitVec.ofInt_natCast, BitVec.toNat_ofNat, Nat.mod_eq_of_lt (by omega)]
  show IntKind.i64.wrap (((BitVec.ofInt 64 (a : Int) ^^^ BitVec.ofInt 64 0).toNat : Nat) : Int) = _
  rw [e, wrap64 (by omega) (by omega)]
theorem wrapI_top {a : Nat} (h : a < 9223372036854775808) : IntKind.i64.wrap ((18446744073709551615 - a : Nat) : Int) = -1 - (a : Int) := by
  unfold IntKind.wrap
  simp only [IntKind.bits, IntKind.signed]
  simp
  omega
theorem xorI_ones {a : Nat} (h : a < 9223372036854775808) : bits BinOp.xor IntKind.i64 (a : Int) (-1) = -1 - (a : Int) := by
  have e : (BitVec.ofInt 64 (a : Int) ^^^ BitVec.ofInt 64 (-1)).toNat = 18446744073709551615 - a := by
    have : BitVec.ofInt 64 (-1) = BitVec.allOnes 64 := rfl
    rw [this, BitVec.xor_allOnes, BitVec.toNat_not, BitVec.ofInt_natCast, BitVec.toNat_ofNat, Nat.mod_eq_of_lt (by omega)]
  show IntKind.i64.wrap (((BitVec.ofInt 64 (a : Int) ^^^ BitVec.ofInt 64 (-1)).toNat : Nat) : Int) = _
  rw [e, wrapI_top h]
theorem num_dec {x : Int} (hx : IntKind.i64.min ≤ x ∧ x ≤ IntKind.i64.max) : bits BinOp.xor IntKind.i64 (IntKind.i64.wrap (((numN x : Nat) : Int).fdiv (2 ^ (Nat.min (Int.toNat 1) 64)))) (IntKind.i64.wrap (0 - IntKind.i64.wrap (bits BinOp.and IntKind.u64 ((numN x : Nat) : Int) 1))) = x := by
  have hx' := i64_range hx
  have hlt := numN_lt hx
  rw [and_one (by omega)]
  have hd : ((numN x : Nat) : Int).fdiv (2 ^ (Nat.min (Int.toNat 1) 64)) = ((numN x / 2 : Nat) : Int) := by
    show ((numN x : Nat) : Int).fdiv 2 = _
    rw [Int.fdiv_eq_ediv_of_nonneg _ (by decide)]; omega
  rw [hd]
  by_cases h : 0 ≤ x
  · have hn : numN x = 2 * x.toNat := by unfold numN; rw [if_pos h]; omega
    have h1 : numN x / 2 = x.toNat := by omega
    have h2 : numN x % 2 = 0 := by omega
    rw [h1, h2, wrap64 (by omega) (by omega)]
    have : IntKind.i64.wrap (0 - IntKind.i64.wrap ((0 : Nat) : Int)) = 0 := by decide
    rw [this, xorI_zero (by omega)]; omega
  · have hn : numN x = 2 * (-x - 1).toNat + 1 := by unfold numN; rw [if_neg h]; omega
    have h1 : numN x / 2 = (-x - 1).toNat := by omega
    have h2 : numN x % 2 = 1 := by omega
    rw [h1, h2, wrap64 (by omega) (by omega)]
    have : IntKind.i64.wrap (0 - IntKind.i64.wrap ((1 : Nat) : Int)) = -1 := by decide
    rw [this, xorI_ones (by omega)]; omega
def numQ (br : Nat) (nl : Bool) (rest : List UInt8) (bad : Bool) (left : Int) (G : Heap) (y : V) (G' : Heap) : Prop :=
  ∃ (n : Int) (rest' : List UInt8) (bad' : Bool), (IntKind.i64.min ≤ n ∧ n ≤ IntKind.i64.max) ∧ y = .int .i64 n ∧ Rd G' br nl rest' bad' left ∧ KB br G G' ∧ rest'.length ≤ rest.length ∧
    ∀ (x : Int) (r : List UInt8), rest = natB (numN x) ++ r → (IntKind.i64.min ≤ x ∧ x ≤ IntKind.i64.max) → bad = false → n = x ∧ rest' = r ∧ bad' = false
theorem a_rnum (br : Nat) (nl : Bool) (rest : List UInt8) (bad : Bool) (left : Int) (G : Heap) (hl : rest.length ≤ 1099511627776) (hG : Rd G br nl rest bad left) :
    ACall Tryz.prog 57 [.ptr br 0] (numQ br nl rest bad left G) G := by
  refine acall_body (rs := [.tmp 2]) Tryz.func57 rfl rfl Tryz.ntmps57 (by kernel_rfl) (Nat.le_of_ble_eq_true rfl) ?_
  refine aw_sr rfl ?_  -- r0 @value.go:143
  simp only [go_sem, reduceIte, Nat.reduceEqDiff, Nat.reduceAdd, Nat.reduceMul, Nat.reduceSub, Nat.reduceLeDiff, Nat.reduceLT, reduceCtorEq]
  refine aw_sr rfl ?_  -- r1 @value.go:144
  simp only [go_sem, reduceIte, Nat.reduceEqDiff, Nat.reduceAdd, Nat.reduceMul, Nat.reduceSub, Nat.reduceLeDiff, Nat.reduceLT, reduceCtorEq]
  refine goA_by (a_rnatural br nl rest bad left G hl hG) fun y G1 hy => ?_
  obtain ⟨n, rest', bad', hn, rfl, hR1, hKB, hlen, hcan⟩ := hy
  simp only [go_sem, reduceIte, Nat.reduceEqDiff, Nat.reduceAdd, Nat.reduceMul, Nat.reduceSub, Nat.reduceLeDiff, Nat.reduceLT, reduceCtorEq]
  refine aw_sr rfl ?_  -- r2 @value.go:145
  simp only [go_sem, reduceIte, Nat.reduceEqDiff, Nat.reduceAdd, Nat.reduceMul, Nat.reduceSub, Nat.reduceLeDiff, Nat.reduceLT, reduceCtorEq]
  refine ⟨by decide, ?_⟩
  refine aw_ret ⟨trivial, _, rfl, _, rest', bad', bitsI_range _ _ _, rfl, hR1, hKB, hlen, ?_⟩
  intro x r h1 h2 h3
  obtain ⟨p1, p2, p3⟩ := hcan (numN x) r h1 (numN_lt h2) h3
  exact ⟨by rw [p1]; exact num_dec h2, p2, p3⟩
def manyQ (br : Nat) (nl : Bool) (rest : List UInt8) (bad : Bool) (left : Int) (most : Nat) (G : Heap) (y : V) (G' : Heap) : Prop :=
  ∃ (n : Nat) (rest' : List UInt8) (bad' : Bool), n ≤ most ∧ y = .int .i64 (n : Nat) ∧ Rd G' br nl rest' bad' left ∧ KB br G G' ∧ rest'.length ≤ rest.length ∧
    ∀ (x : Nat) (r : List UInt8), rest = natB x ++ r → x ≤ most → bad = false → n = x ∧ rest' = r ∧ bad' = false
theorem a_rmany (br : Nat) (nl : Bool) (rest : List UInt8) (bad : Bool) (left : Int) (most : Nat) (G : Heap) (hm : most ≤ 1048576) (hl : rest.length ≤ 1099511627776) (hG : Rd G br nl rest bad left) :
    ACall Tryz.prog 55 [.ptr br 0, .int .i64 ((most : Nat) : Int)] (manyQ br nl rest bad left most G) G := by
  refine acall_body (rs := [.tmp 4]) Tryz.func55 rfl rfl Tryz.ntmps55 (by kernel_rfl) (Nat.le_of_ble_eq_true rfl) ?_
  refine aw_sr rfl ?_  -- r0 @value.go:149
  simp only [go_sem, reduceIte, Nat.reduceEqDiff, Nat.reduceAdd, Nat.reduceMul, Nat.reduceSub, Nat.reduceLeDiff, Nat.reduceLT, reduceCtorEq]
  refine aw_sr rfl ?_  -- r1 @value.go:150
  simp only [go_sem, reduceIte, Nat.reduceEqDiff, Nat.reduceAdd, Nat.reduceMul, Nat.reduceSub, Nat.reduceLeDiff, Nat.reduceLT, reduceCtorEq]
  refine goA_by (a_rnatural br nl rest bad left G hl hG) fun y G1 hy => ?_
  obtain ⟨n, rest', bad', hn, rfl, hR1, hKB, hlen, hcan⟩ := hy
  have hR1' : hget G1 br = some (.vars [.sl (bytesV rest') nl .no, .bool bad', .int .i64 left]) := hR1
  simp only [go_sem, reduceIte, Nat.reduceEqDiff, Nat.reduceAdd, Nat.reduceMul, Nat.reduceSub, Nat.reduceLeDiff, Nat.reduceLT, reduceCtorEq]
  refine aw_seq fun K1 hK1 => ?_
  refine aw_sr rfl ?_  -- r2 @value.go:151
  simp only [go_sem, reduceIte, Nat.reduceEqDiff, Nat.reduceAdd, Nat.reduceMul, Nat.reduceSub, Nat.reduceLeDiff, Nat.reduceLT, reduceCtorEq, wrapN (show most < 2 ^ 64 by omega)]
  refine aw_if rfl (fun h => ?_) (fun h => ?_)
  · refine aw_sr rfl ?_  -- r3 @value.go:152
    simp only [go_sem, reduceIte, Nat.reduceEqDiff, Nat.reduceAdd, Nat.reduceMul, Nat.reduceSub, Nat.reduceLeDiff, Nat.reduceLT, reduceCtorEq, hR1']
    refine aw_sr rfl ?_  -- r4 @value.go:153
    simp only [go_sem, reduceIte, Nat.reduceEqDiff, Nat.reduceAdd, Nat.reduceMul, Nat.reduceSub, Nat.reduceLeDiff, Nat.reduceLT, reduceCtorEq]
    refine aw_ret ⟨trivial, _, rfl, 0, rest', true, Nat.zero_le _, rfl, hget_hset_self hR1', hKB.trans (KB.hset _ _ _), hlen, ?_⟩
    intro x r h1 h2 h3
    obtain ⟨p1, p2, p3⟩ := hcan x r h1 (by omega) h3
    simp only [decide_eq_true_eq] at h
    omega
  simp only [decide_eq_false_iff_not] at h
  refine aw_skip (hK1 _ _ ?_)
  refine aw_sr rfl ?_  -- r5 @value.go:155
  simp only [go_sem, reduceIte, Nat.reduceEqDiff, Nat.reduceAdd, Nat.reduceMul, Nat.reduceSub, Nat.reduceLeDiff, Nat.reduceLT, reduceCtorEq, wrap64 (show -9223372036854775808 ≤ ((n : Nat) : Int) by omega) (show ((n : Nat) : Int) ≤ 9223372036854775807 by omega)]
  refine aw_ret ⟨trivial, _, rfl, n, rest', bad', by omega, rfl, hR1, hKB, hlen, fun x r h1 h2 h3 => hcan x r h1 (by omega) h3⟩
def textQ (br : Nat) (nl : Bool) (rest : List UInt8) (bad : Bool) (left : Int) (G : Heap) (y : V) (G' : Heap) : Prop :=
  ∃ (t rest' : List UInt8) (bad' : Bool), t.length ≤ 4000 ∧ y = .str t ∧ Rd G' br nl rest' bad' left ∧ KB br G G' ∧ rest'.length ≤ rest.length ∧
    ∀ (x r : List UInt8), rest = textB x ++ r → x.length ≤ 4000 → bad = false → t = x ∧ rest' = r ∧ bad' = false
theorem a_rtext (br : Nat) (nl : Bool) (rest : List UInt8) (bad : Bool) (left : Int) (G : Heap) (hl : rest.length ≤ 1099511627776) (hG : Rd G br nl rest bad left) :
    ACall Tryz.prog 85 [.ptr br 0] (textQ br nl rest bad left G) G := by
  refine acall_body (rs := [.tmp 2]) Tryz.func85 rfl rfl Tryz.ntmps85 (by kernel_rfl) (Nat.le_of_ble_eq_true rfl) ?_
  refine aw_sr rfl ?_  -- r0 @value.go:159
  simp only [go_sem, reduceIte, Nat.reduceEqDiff, Nat.reduceAdd, Nat.reduceMul, Nat.reduceSub, Nat.reduceLeDiff, Nat.reduceLT, reduceCtorEq]
  refine aw_sr rfl ?_  -- r1 @value.go:160
  simp only [go_sem, reduceIte, Nat.reduceEqDiff, Nat.reduceAdd, Nat.reduceMul, Nat.reduceSub, Nat.reduceLeDiff, Nat.reduceLT, reduceCtorEq]
  refine goA_by (a_rmany br nl rest bad left 4000 G (by decide) hl hG) fun y G1 hy => ?_
  obtain ⟨n, rest', bad', hn, rfl, hR1, hKB, hlen, hcan⟩ := hy
  have hR1' : hget G1 br = some (.vars [.sl (bytesV rest') nl .no, .bool bad', .int .i64 left]) := hR1
  simp only [go_sem, reduceIte, Nat.reduceEqDiff, Nat.reduceAdd, Nat.reduceMul, Nat.reduceSub, Nat.reduceLeDiff, Nat.reduceLT, reduceCtorEq]
  refine aw_seq fun K1 hK1 => ?_
  refine aw_sr rfl ?_  -- r2 @value.go:161
  simp only [go_sem, reduceIte, Nat.reduceEqDiff, Nat.reduceAdd, Nat.reduceMul, Nat.reduceSub, Nat.reduceLeDiff, Nat.reduceLT, reduceCtorEq, hR1']
  refine aw_if rfl (fun h => ?_) (fun h => ?_)
  · simp only [decide_eq_true_eq] at h
    refine aw_sr rfl ?_  -- r3 @value.go:162
    simp only [go_sem, reduceIte, Nat.reduceEqDiff, Nat.reduceAdd, Nat.reduceMul, Nat.reduceSub, Nat.reduceLeDiff, Nat.reduceLT, reduceCtorEq, hR1']
    refine aw_sr rfl ?_  -- r4 @value.go:163
    simp only [go_sem, reduceIte, Nat.reduceEqDiff, Nat.reduceAdd, Nat.reduceMul, Nat.reduceSub, Nat.reduceLeDiff, Nat.reduceLT, reduceCtorEq]
    refine aw_ret ⟨trivial, _, rfl, [], rest', true, Nat.zero_le _, rfl, hget_hset_self hR1', hKB.trans (KB.hset _ _ _), hlen, ?_⟩
    intro x r h1 h2 h3
    rw [textB, List.append_assoc] at h1
    obtain ⟨p1, p2, p3⟩ := hcan x.length (x ++ r) h1 h2 h3
    rw [p2, List.length_append] at h
    omega
  simp only [decide_eq_false_iff_not] at h
  refine aw_skip (hK1 _ _ ?_)
  have hb1 : (bytesV rest').take n = bytesV (rest'.take n) := by simp [bytesV, List.map_take]
  have hb2 : (bytesV rest').drop n = bytesV (rest'.drop n) := by simp [bytesV, List.map_drop]
  refine aw_sr rfl ?_  -- r5 @value.go:165
  simp only [go_sem, reduceIte, Nat.reduceEqDiff, Nat.reduceAdd, Nat.reduceMul, Nat.reduceSub, Nat.reduceLeDiff, Nat.reduceLT, reduceCtorEq, hR1', Int.toNat_natCast, hb1]
  refine ⟨⟨⟨by omega, by omega⟩, wid_bytes _⟩, ?_⟩
  refine aw_sr rfl ?_  -- r6 @value.go:166
  simp only [go_sem, reduceIte, Nat.reduceEqDiff, Nat.reduceAdd, Nat.reduceMul, Nat.reduceSub, Nat.reduceLeDiff, Nat.reduceLT, reduceCtorEq, hR1', Int.toNat_natCast, hb2, sliceTag_no, List.take_length]
  refine ⟨⟨⟨by omega, by omega⟩, wid_bytes _⟩, ?_⟩
  refine aw_sr rfl ?_  -- r7 @value.go:167
  simp only [go_sem, reduceIte, Nat.reduceEqDiff, Nat.reduceAdd, Nat.reduceMul, Nat.reduceSub, Nat.reduceLeDiff, Nat.reduceLT, reduceCtorEq]
  refine aw_ret ⟨trivial, _, rfl, rest'.take n, rest'.drop n, bad', by rw [List.length_take]; omega, rfl, hget_hset_self hR1', hKB.trans (KB.hset _ _ _), by rw [List.length_drop]; omega, ?_⟩
  intro x r h1 h2 h3
  rw [textB, List.append_assoc] at h1
  obtain ⟨p1, p2, p3⟩ := hcan x.length (x ++ r) h1 h2 h3
  rw [p1, p2]
  exact ⟨List.take_left, List.drop_left, p3⟩
end Go.Proofs.YtlgfffngojlffaaGreat

/- The reference's taker: one byte, a number, any number, a text. No conditions. -/
set_option linter.unusedSimpArgs false
set_option linter.unusedVariables false
namespace Go.Proofs.YtlgfffngojlffaaGreat
open Go.Proofs.YtlgfffngojlffaaGreatV
set_option maxHeartbeats 400000
set_option maxRecDepth 100000
/-- Where a taker stands. -/
def Tk (G : Heap) (br : Nat) (nl : Bool) (rest : List UInt8) (ok : Bool) : Prop := hget G br = some (.vars [.sl (bytesV rest) nl .no, .bool ok])
def oneQ (br : Nat) (nl : Bool) (rest : List UInt8) (ok : Bool) (G : Heap) (y : V) (G' : Heap) : Prop :=
  ∃ (c : UInt8) (rest' : List UInt8) (ok' : Bool), y = .int .i64 ((c.toNat : Nat) : Int) ∧ Tk G' br nl rest' ok' ∧ KB br G G' ∧ ((rest = [] ∧ rest' = [] ∧ ok' = false) ∨ (rest = c :: rest' ∧ ok' = ok))
theorem a_one (br : Nat) (nl : Bool) (rest : List UInt8) (ok : Bool) (G : Heap) (hl : rest.length ≤ 1099511627776) (hG : Tk G br nl rest ok) :
    ACall Tryz.prog 87 [.ptr br 0] (oneQ br nl rest ok G) G := by
  have hG' : hget G br = some (.vars [.sl (bytesV rest) nl .no, .bool ok]) := hG
  refine acall_body (rs := [.tmp 2]) Tryz.func87 rfl rfl Tryz.ntmps87 (by kernel_rfl) (Nat.le_of_ble_eq_true rfl) ?_
  refine aw_sr rfl ?_  -- r0
  simp only [go_sem, reduceIte, Nat.reduceEqDiff, Nat.reduceAdd, Nat.reduceMul, Nat.reduceSub, Nat.reduceLeDiff, Nat.reduceLT, reduceCtorEq]
  refine aw_seq fun K1 hK1 => ?_
  refine aw_sr rfl ?_  -- r1
  simp only [go_sem, reduceIte, Nat.reduceEqDiff, Nat.reduceAdd, Nat.reduceMul, Nat.reduceSub, Nat.reduceLeDiff, Nat.reduceLT, reduceCtorEq, hG']
  cases rest with
  | nil =>
    refine aw_if rfl (fun h => ?_) (fun h => by simp at h)
    refine aw_sr rfl ?_  -- r2
    simp only [go_sem, reduceIte, Nat.reduceEqDiff, Nat.reduceAdd, Nat.reduceMul, Nat.reduceSub, Nat.reduceLeDiff, Nat.reduceLT, reduceCtorEq, hG']
    refine aw_sr rfl ?_  -- r3
    simp only [go_sem, reduceIte, Nat.reduceEqDiff, Nat.reduceAdd, Nat.reduceMul, Nat.reduceSub, Nat.reduceLeDiff, Nat.reduceLT, reduceCtorEq]
    exact aw_ret ⟨trivial, _, rfl, 0, [], false, rfl, hget_hset_self hG', KB.hset _ _ _, .inl ⟨rfl, rfl, rfl⟩⟩
  | cons c rest =>
    simp only [List.length_cons] at hl
    have hb : (bytesV (c :: rest)).getD 0 [] = [.int .u8 ((c.toNat : Nat) : Int)] := rfl
    have hcl := c.toNat_lt
    refine aw_if rfl (fun h => by simp at h; omega) (fun h => ?_)
    refine aw_skip (hK1 _ _ ?_)
    refine aw_sr rfl ?_  -- r4
    simp only [go_sem, reduceIte, Nat.reduceEqDiff, Nat.reduceAdd, Nat.reduceMul, Nat.reduceSub, Nat.reduceLeDiff, Nat.reduceLT, reduceCtorEq, hG', Int.toNat_zero, hb]
    refine ⟨⟨by omega, by simp [bytesV], wid_bytes _⟩, ?_⟩
    refine aw_sr rfl ?_  -- r5
    simp only [go_sem, reduceIte, Nat.reduceEqDiff, Nat.reduceAdd, Nat.reduceMul, Nat.reduceSub, Nat.reduceLeDiff, Nat.reduceLT, reduceCtorEq, hG', toNat1, List.take_length, sliceTag_no]
    refine ⟨⟨⟨by omega, by omega⟩, wid_bytes _⟩, ?_⟩
    refine aw_sr rfl ?_  -- r6
    simp only [go_sem, reduceIte, Nat.reduceEqDiff, Nat.reduceAdd, Nat.reduceMul, Nat.reduceSub, Nat.reduceLeDiff, Nat.reduceLT, reduceCtorEq, wrap64 (show -9223372036854775808 ≤ ((c.toNat : Nat) : Int) by omega) (show ((c.toNat : Nat) : Int) ≤ 9223372036854775807 by omega)]
    exact aw_ret ⟨trivial, _, rfl, c, rest, ok, rfl, hget_hset_self hG', KB.hset _ _ _, .inr ⟨rfl, rfl⟩⟩
def tnatQ (br : Nat) (nl : Bool) (rest : List UInt8) (ok : Bool) (G : Heap) (y : V) (G' : Heap) : Prop :=
  ∃ (n : Nat) (rest' : List UInt8) (ok' : Bool), n < 9223372036854775808 ∧ y = .int .i64 (n : Nat) ∧ Tk G' br nl rest' ok' ∧ KB br G G' ∧ rest'.length ≤ rest.length ∧ (ok' = true → ok = true ∧ rest'.length < rest.length) ∧
    ∀ (x : Nat) (r : List UInt8), rest = natB x ++ r → x < 9223372036854775808 → ok = true → n = x ∧ rest' = r ∧ ok' = true
theorem tmod_nat (c k : Nat) : ((c : Nat) : Int).tmod (k : Nat) = ((c % k : Nat) : Int) := by rw [Int.tmod_eq_emod_of_nonneg (by omega)]; rfl
theorem pow7 {k : Nat} (hk : k ≤ 8) : 2 ^ (7 * k) ≤ 72057594037927936 := Nat.le_trans (Nat.pow_le_pow_right (by decide) (show 7 * k ≤ 56 by omega)) (by decide)
theorem a_tnat (br : Nat) (nl : Bool) (rest : List UInt8) (ok : Bool) (G : Heap) (hl : rest.length ≤ 1099511627776) (hG : Tk G br nl rest ok) :
    ACall Tryz.prog 62 [.ptr br 0] (tnatQ br nl rest ok G) G := by
  refine acall_body (rs := [.tmp 2]) Tryz.func62 rfl rfl Tryz.ntmps62 (by kernel_rfl) (Nat.le_of_ble_eq_true rfl) ?_
  refine aw_sr rfl ?_  -- r0
  simp only [go_sem, reduceIte, Nat.reduceEqDiff, Nat.reduceAdd, Nat.reduceMul, Nat.reduceSub, Nat.reduceLeDiff, Nat.reduceLT, reduceCtorEq]
  refine aw_sr rfl ?_  -- r1
  simp only [go_sem, reduceIte, Nat.reduceEqDiff, Nat.reduceAdd, Nat.reduceMul, Nat.reduceSub, Nat.reduceLeDiff, Nat.reduceLT, reduceCtorEq]
  refine aw_seq fun K1 hK1 => ?_
  refine aw_sr rfl ?_  -- r2
  simp only [go_sem, reduceIte, Nat.reduceEqDiff, Nat.reduceAdd, Nat.reduceMul, Nat.reduceSub, Nat.reduceLeDiff, Nat.reduceLT, reduceCtorEq]
  refine aw_block ?_  -- 0
  refine aw_lph (S := {s : Nat × Nat × List UInt8 × Bool × Heap // s.1 ≤ 9 ∧ s.2.1 < 2 ^ (7 * s.1) ∧ Tk s.2.2.2.2 br nl s.2.2.1 s.2.2.2.1 ∧ KB br G s.2.2.2.2 ∧ s.2.2.1.length ≤ rest.length ∧ (s.2.2.2.1 = true → ok = true ∧ (0 < s.1 → s.2.2.1.length < rest.length)) ∧
      ∀ (x : Nat) (r : List UInt8), rest = natB x ++ r → x < 9223372036854775808 → ok = true → s.2.2.2.1 = true ∧ s.2.1 = x % 2 ^ (7 * s.1) ∧ s.2.2.1 = natB (x / 2 ^ (7 * s.1)) ++ r ∧ (s.1 = 0 ∨ 1 ≤ x / 2 ^ (7 * s.1))}) (fun s => [(0, .ptr br 0), (3, .int .i64 (s.1.2.1 : Nat)), (4, .int .i64 (IntKind.i64.wrap ((2 ^ (7 * s.1.1) : Nat) : Int))), (5, .int .i64 ((s.1.1 : Nat) : Int))]) (fun s => s.1.2.2.2.2) (fun s => 9 - s.1.1)
    ⟨(0, 0, rest, ok, G), Nat.zero_le _, by show 0 < 2 ^ (7 * 0); decide, hG, KB.refl _ _, Nat.le_refl _, fun h => ⟨h, fun h => absurd h (Nat.lt_irrefl _)⟩, fun x r h1 h2 h3 => ⟨h3, by simp [Nat.mod_one], by simpa using h1, .inl rfl⟩⟩ ?_ (fun _ _ h => h) ?_
  · simp only [go_sem, reduceIte, Nat.reduceEqDiff, Nat.reduceAdd, Nat.reduceMul, Nat.reduceSub, Nat.reduceLeDiff, Nat.reduceLT, reduceCtorEq, Int.natCast_zero]
    rfl
  intro ⟨⟨k, n, rs, bd, H⟩, hk, hn, hR, hKB, hrl, hst, hcan⟩
  simp only at hk hn hR hKB hrl hst hcan ⊢
  have hR' : hget H br = some (.vars [.sl (bytesV rs) nl .no, .bool bd]) := hR
  refine aw_seq fun K2 hK2 => ?_
  refine aw_sr rfl ?_  -- r3
  simp only [go_sem, reduceIte, Nat.reduceEqDiff, Nat.reduceAdd, Nat.reduceMul, Nat.reduceSub, Nat.reduceLeDiff, Nat.reduceLT, reduceCtorEq]
  refine aw_if rfl (fun h => ?_) (fun h => ?_)
  · have hk8 : k ≤ 8 := by
      rw [decide_eq_true_eq] at h
      omega
    have hp := pow7 hk8
    have hp0 : 0 < 2 ^ (7 * k) := Nat.pow_pos (by decide)
    have hp1 : 2 ^ (7 * (k + 1)) = 2 ^ (7 * k) * 128 := by rw [show 7 * (k + 1) = 7 * k + 7 from by omega, Nat.pow_add]
    have hw : IntKind.i64.wrap ((2 ^ (7 * k) : Nat) : Int) = ((2 ^ (7 * k) : Nat) : Int) := wrap64 (by omega) (by omega)
    refine aw_skip (hK2 _ _ ?_)
    refine aw_seq fun K3 hK3 => ?_
    refine aw_block ?_  -- 1
    refine aw_sr rfl ?_  -- r5
    simp only [go_sem, reduceIte, Nat.reduceEqDiff, Nat.reduceAdd, Nat.reduceMul, Nat.reduceSub, Nat.reduceLeDiff, Nat.reduceLT, reduceCtorEq]
    refine goA_by (a_one br nl rs bd H (by omega) hR) fun y G1 hy => ?_
    obtain ⟨c, rs', bd', rfl, hR1, hKB1, hc⟩ := hy
    have hcl := c.toNat_lt
    have hcm : c.toNat % 128 < 128 := Nat.mod_lt _ (by decide)
    have hprod : c.toNat % 128 * 2 ^ (7 * k) ≤ 127 * 2 ^ (7 * k) := Nat.mul_le_mul_right _ (by omega)
    simp only [go_sem, reduceIte, Nat.reduceEqDiff, Nat.reduceAdd, Nat.reduceMul, Nat.reduceSub, Nat.reduceLeDiff, Nat.reduceLT, reduceCtorEq]
    refine aw_sr rfl ?_  -- r6
    simp only [go_sem, reduceIte, Nat.reduceEqDiff, Nat.reduceAdd, Nat.reduceMul, Nat.reduceSub, Nat.reduceLeDiff, Nat.reduceLT, reduceCtorEq, hw]
    refine ⟨by decide, ?_⟩
    have hval : IntKind.i64.wrap ((n : Int) + IntKind.i64.wrap (((c.toNat : Nat) : Int).tmod 128 * ((2 ^ (7 * k) : Nat) : Int))) = ((n + c.toNat % 128 * 2 ^ (7 * k) : Nat) : Int) := by
      have e1 : ((c.toNat : Nat) : Int).tmod 128 = ((c.toNat % 128 : Nat) : Int) := tmod_nat c.toNat 128
      rw [e1, ← Int.natCast_mul, wrap64 (n := ((c.toNat % 128 * 2 ^ (7 * k) : Nat) : Int)) (by omega) (by omega), ← Int.natCast_add, wrap64 (by omega) (by omega)]
    rw [hval]
    have hn2 : n + c.toNat % 128 * 2 ^ (7 * k) < 2 ^ (7 * (k + 1)) := by omega
    have hcan2 : ∀ (x : Nat) (r : List UInt8), rest = natB x ++ r → x < 9223372036854775808 → ok = true → bd' = true ∧ n + c.toNat % 128 * 2 ^ (7 * k) = x % 2 ^ (7 * (k + 1)) ∧ ((c.toNat < 128 ∧ x < 2 ^ (7 * (k + 1)) ∧ rs' = r) ∨ (¬ c.toNat < 128 ∧ rs' = natB (x / 2 ^ (7 * (k + 1))) ++ r ∧ 1 ≤ x / 2 ^ (7 * (k + 1)))) := by
      intro x r h1 h2 h3
      obtain ⟨p1, p2, p3, p4⟩ := hcan x r h1 h2 h3
      rcases hc with ⟨q1, q2, q3⟩ | ⟨q1, q2⟩
      · exfalso
        rw [q1] at p3
        have := congrArg List.length p3
        have hp := natB_pos (x / 2 ^ (7 * k))
        simp only [List.length_nil, List.length_append] at this
        omega
      · rw [q1] at p3
        have e := mod_step x (7 * k)
        have hd : x / 2 ^ (7 * (k + 1)) = x / 2 ^ (7 * k) / 128 := by
          rw [show 7 * (k + 1) = 7 * k + 7 from by omega, Nat.pow_add, ← Nat.div_div_eq_div_mul]
        have hms : x % 2 ^ (7 * (k + 1)) = x % 2 ^ (7 * k + 7) := rfl
        rcases nat_step p3 with ⟨o1, o2, o3, o4⟩ | ⟨o1, o2, o3, o4⟩
        · refine ⟨by rw [q2, p1], by rw [hms, e, o3, p2]; omega, .inl ⟨o1, ?_, o4⟩⟩
          rw [hp1, Nat.mul_comm]
          exact (Nat.div_lt_iff_lt_mul hp0).1 o2
        · exact ⟨by rw [q2, p1], by rw [hms, e, o3, p2]; omega, .inr ⟨o1, by rw [hd]; exact o4, by rw [hd]; omega⟩⟩
    have hrl2 : rs'.length ≤ rest.length := by
      rcases hc with ⟨q1, q2, q3⟩ | ⟨q1, q2⟩
      · rw [q2]; exact Nat.zero_le _
      · rw [q1, List.length_cons] at hrl; omega
    have hst2 : bd' = true → ok = true ∧ rs'.length < rest.length := fun e => by
      rcases hc with ⟨q1, q2, q3⟩ | ⟨q1, q2⟩
      · rw [q3] at e; cases e
      · have := (hst (q2 ▸ e)).1
        rw [q1, List.length_cons] at hrl
        exact ⟨this, by omega⟩
    refine aw_seq fun K4 hK4 => ?_
    refine aw_sr rfl ?_  -- r7
    simp only [go_sem, reduceIte, Nat.reduceEqDiff, Nat.reduceAdd, Nat.reduceMul, Nat.reduceSub, Nat.reduceLeDiff, Nat.reduceLT, reduceCtorEq]
    refine aw_if rfl (fun h => ?_) (fun h => ?_)
    · have hc8 : c.toNat < 128 := by rw [decide_eq_true_eq] at h; omega
      refine aw_sr rfl ?_  -- r8
      simp only [go_sem, reduceIte, Nat.reduceEqDiff, Nat.reduceAdd, Nat.reduceMul, Nat.reduceSub, Nat.reduceLeDiff, Nat.reduceLT, reduceCtorEq]
      refine aw_ret ⟨trivial, _, rfl, _, rs', bd', ?_, rfl, hR1, hKB.trans hKB1, hrl2, hst2, ?_⟩
      · omega
      · intro x r h1 h2 h3
        obtain ⟨p1, p2, p3⟩ := hcan2 x r h1 h2 h3
        rcases p3 with ⟨_, o2, o3⟩ | ⟨o1, _⟩
        · exact ⟨by rw [p2, Nat.mod_eq_of_lt o2], o3, p1⟩
        · exact absurd hc8 o1
    have hc8 : ¬ c.toNat < 128 := by rw [decide_eq_false_iff_not] at h; omega
    refine aw_skip (hK4 _ _ ?_)
    refine aw_rg rfl ?_  -- r9
    simp only [go_sem, reduceIte, Nat.reduceEqDiff, Nat.reduceAdd, Nat.reduceMul, Nat.reduceSub, Nat.reduceLeDiff, Nat.reduceLT, reduceCtorEq]
    refine hK3 _ _ ?_
    refine aw_rg rfl ?_  -- r4
    simp only [go_sem, reduceIte, Nat.reduceEqDiff, Nat.reduceAdd, Nat.reduceMul, Nat.reduceSub, Nat.reduceLeDiff, Nat.reduceLT, reduceCtorEq]
    refine ⟨⟨(k + 1, n + c.toNat % 128 * 2 ^ (7 * k), rs', bd', G1), by show k + 1 ≤ 9; omega, hn2, hR1, hKB.trans hKB1, hrl2, fun h => ⟨(hst2 h).1, fun _ => (hst2 h).2⟩, ?_⟩, by show 9 - (k + 1) < 9 - k; omega, ⟨rfl, rfl, ?_, ?_⟩, fun _ _ h => h⟩
    · intro x r h1 h2 h3
      obtain ⟨p1, p2, p3⟩ := hcan2 x r h1 h2 h3
      rcases p3 with ⟨o1, _⟩ | ⟨_, o2, o3⟩
      · exact absurd o1 hc8
      · exact ⟨p1, p2, o2, .inr o3⟩
    · show some (V.int .i64 (IntKind.i64.wrap (((2 ^ (7 * k) : Nat) : Int) * 128))) = some (V.int .i64 (IntKind.i64.wrap ((2 ^ (7 * (k + 1)) : Nat) : Int)))
      rw [hp1]; rfl
    · show some (V.int .i64 (IntKind.i64.wrap ((k : Int) + 1))) = some (V.int .i64 ((k + 1 : Nat) : Int))
      rw [wrap64 (by omega) (by omega)]; rfl
  · have hk9 : k = 9 := by
      rw [decide_eq_false_iff_not] at h
      omega
    refine aw_exit ?_  -- 0
    refine hK1 _ _ ?_
    refine aw_sr rfl ?_  -- r10
    simp only [go_sem, reduceIte, Nat.reduceEqDiff, Nat.reduceAdd, Nat.reduceMul, Nat.reduceSub, Nat.reduceLeDiff, Nat.reduceLT, reduceCtorEq, hR']
    refine aw_sr rfl ?_  -- r11
    simp only [go_sem, reduceIte, Nat.reduceEqDiff, Nat.reduceAdd, Nat.reduceMul, Nat.reduceSub, Nat.reduceLeDiff, Nat.reduceLT, reduceCtorEq]
    refine aw_ret ⟨trivial, _, rfl, 0, rs, false, by decide, rfl, hget_hset_self hR', hKB.trans (KB.hset _ _ _), hrl, (fun h => by cases h), ?_⟩
    intro x r h1 h2 h3
    obtain ⟨p1, p2, p3, p4⟩ := hcan x r h1 h2 h3
    exfalso
    rw [hk9, Nat.div_eq_of_lt (show x < 2 ^ (7 * 9) from h2)] at p4
    omega
end Go.Proofs.YtlgfffngojlffaaGreat

/- The reference's taker: any number, a text. No conditions. -/
set_option linter.unusedSimpArgs false
set_option linter.unusedVariables false
namespace Go.Proofs.YtlgfffngojlffaaGreat
open Go.Proofs.YtlgfffngojlffaaGreatV
set_option maxHeartbeats 400000
set_option maxRecDepth 100000
def tnumQ (br : Nat) (nl : Bool) (rest : List UInt8) (ok : Bool) (G : Heap) (y : V) (G' : Heap) : Prop :=
  ∃ (n : Int) (rest' : List UInt8) (ok' : Bool), (IntKind.i64.min ≤ n ∧ n ≤ IntKind.i64.max) ∧ y = .int .i64 n ∧ Tk G' br nl rest' ok' ∧ KB br G G' ∧ rest'.length ≤ rest.length ∧ (ok' = true → ok = true ∧ rest'.length < rest.length) ∧
    ∀ (x : Int) (r : List UInt8), rest = natB (numN x) ++ r → (IntKind.i64.min ≤ x ∧ x ≤ IntKind.i64.max) → ok = true → n = x ∧ rest' = r ∧ ok' = true
theorem num_odd {x : Int} (hx : IntKind.i64.min ≤ x ∧ x ≤ IntKind.i64.max) (h : numN x % 2 = 1) : x = -((numN x / 2 : Nat) : Int) - 1 := by
  have := i64_range hx
  unfold numN at h ⊢
  split at h <;> rename_i hh
  · omega
  · rw [if_neg hh]; omega
theorem num_even {x : Int} (hx : IntKind.i64.min ≤ x ∧ x ≤ IntKind.i64.max) (h : ¬ numN x % 2 = 1) : x = ((numN x / 2 : Nat) : Int) := by
  have := i64_range hx
  unfold numN at h ⊢
  split at h <;> rename_i hh
  · rw [if_pos hh]; omega
  · omega
theorem num_bits2 {x k c n : Nat} (hx : x < 18446744073709551616) (hk : k < 10) (hc : c = x / 2 ^ (7 * k) % 128) (hn : n = x % 2 ^ (7 * k)) :
    IntKind.u64.wrap ((n : Int) + IntKind.u64.wrap (IntKind.u64.wrap ((c : Nat) : Int) * 2 ^ (Nat.min (7 * k) 64))) = ((x % 2 ^ (7 * (k + 1)) : Nat) : Int) := by
  have e := mod_step x (7 * k)
  have hle := Nat.mod_le x (2 ^ (7 * k + 7))
  have hm : Nat.min (7 * k) 64 = 7 * k := Nat.min_eq_left (by omega)
  have hc8 : c < 128 := by rw [hc]; exact Nat.mod_lt _ (by decide)
  have hw : IntKind.u64.wrap ((c : Nat) : Int) = ((c : Nat) : Int) := by rw [wrap_u64]; omega
  have hw2 : IntKind.u64.wrap (((c * 2 ^ (7 * k) : Nat) : Int)) = ((c * 2 ^ (7 * k) : Nat) : Int) := by
    rw [wrap_u64]
    have : c * 2 ^ (7 * k) ≤ x := by rw [← hc] at e; omega
    generalize c * 2 ^ (7 * k) = z at *
    omega
  have hp : ((c : Nat) : Int) * 2 ^ (7 * k) = ((c * 2 ^ (7 * k) : Nat) : Int) := by rw [Int.natCast_mul, Int.natCast_pow]; rfl
  rw [hw, hm, hp, hw2, ← Int.natCast_add, wrap_u64, Nat.mul_add]
  show _ = ((x % 2 ^ (7 * k + 7) : Nat) : Int)
  rw [e, ← hc, ← hn]
  rw [e, ← hc, ← hn] at hle
  omega
theorem a_tnum (br : Nat) (nl : Bool) (rest : List UInt8) (ok : Bool) (G : Heap) (hl : rest.length ≤ 1099511627776) (hG : Tk G br nl rest ok) :
    ACall Tryz.prog 65 [.ptr br 0] (tnumQ br nl rest ok G) G := by
  refine acall_body (rs := [.tmp 2]) Tryz.func65 rfl rfl Tryz.ntmps65 (by kernel_rfl) (Nat.le_of_ble_eq_true rfl) ?_
  refine aw_sr rfl ?_  -- r0
  simp only [go_sem, reduceIte, Nat.reduceEqDiff, Nat.reduceAdd, Nat.reduceMul, Nat.reduceSub, Nat.reduceLeDiff, Nat.reduceLT, reduceCtorEq]
  refine aw_sr rfl ?_  -- r1
  simp only [go_sem, reduceIte, Nat.reduceEqDiff, Nat.reduceAdd, Nat.reduceMul, Nat.reduceSub, Nat.reduceLeDiff, Nat.reduceLT, reduceCtorEq]
  refine aw_seq fun K1 hK1 => ?_
  refine aw_sr rfl ?_  -- r2
  simp only [go_sem, reduceIte, Nat.reduceEqDiff, Nat.reduceAdd, Nat.reduceMul, Nat.reduceSub, Nat.reduceLeDiff, Nat.reduceLT, reduceCtorEq]
  refine aw_block ?_  -- 0
  refine aw_lph (S := {s : Nat × Nat × List UInt8 × Bool × Heap // s.1 ≤ 10 ∧ s.2.1 < 18446744073709551616 ∧ Tk s.2.2.2.2 br nl s.2.2.1 s.2.2.2.1 ∧ KB br G s.2.2.2.2 ∧ s.2.2.1.length ≤ rest.length ∧ (s.2.2.2.1 = true → ok = true ∧ (0 < s.1 → s.2.2.1.length < rest.length)) ∧
      ∀ (x : Nat) (r : List UInt8), rest = natB x ++ r → x < 18446744073709551616 → ok = true → s.2.2.2.1 = true ∧ s.2.1 = x % 2 ^ (7 * s.1) ∧ s.2.2.1 = natB (x / 2 ^ (7 * s.1)) ++ r ∧ (s.1 = 0 ∨ 1 ≤ x / 2 ^ (7 * s.1))}) (fun s => [(0, .ptr br 0), (3, .int .u64 (s.1.2.1 : Nat)), (4, .int .i64 ((s.1.1 : Nat) : Int))]) (fun s => s.1.2.2.2.2) (fun s => 10 - s.1.1)
    ⟨(0, 0, rest, ok, G), Nat.zero_le _, by show 0 < 18446744073709551616; omega, hG, KB.refl _ _, Nat.le_refl _, fun h => ⟨h, fun h => absurd h (Nat.lt_irrefl _)⟩, fun x r h1 h2 h3 => ⟨h3, by simp [Nat.mod_one], by simpa using h1, .inl rfl⟩⟩ ?_ (fun _ _ h => h) ?_
  · simp only [go_sem, reduceIte, Nat.reduceEqDiff, Nat.reduceAdd, Nat.reduceMul, Nat.reduceSub, Nat.reduceLeDiff, Nat.reduceLT, reduceCtorEq, Int.natCast_zero]
  intro ⟨⟨k, n, rs, bd, H⟩, hk, hn, hR, hKB, hrl, hst, hcan⟩
  simp only at hk hn hR hKB hrl hst hcan ⊢
  have hR' : hget H br = some (.vars [.sl (bytesV rs) nl .no, .bool bd]) := hR
  refine aw_seq fun K2 hK2 => ?_
  refine aw_sr rfl ?_  -- r3
  simp only [go_sem, reduceIte, Nat.reduceEqDiff, Nat.reduceAdd, Nat.reduceMul, Nat.reduceSub, Nat.reduceLeDiff, Nat.reduceLT, reduceCtorEq]
  refine aw_if rfl (fun h => ?_) (fun h => ?_)
  · have hk10 : k < 10 := by
      rw [decide_eq_true_eq] at h
      omega
    refine aw_skip (hK2 _ _ ?_)
    refine aw_seq fun K3 hK3 => ?_
    refine aw_block ?_  -- 1
    refine aw_sr rfl ?_  -- r5
    simp only [go_sem, reduceIte, Nat.reduceEqDiff, Nat.reduceAdd, Nat.reduceMul, Nat.reduceSub, Nat.reduceLeDiff, Nat.reduceLT, reduceCtorEq]
    refine goA_by (a_one br nl rs bd H (by omega) hR) fun y G1 hy => ?_
    obtain ⟨c, rs', bd', rfl, hR1, hKB1, hc⟩ := hy
    have hcl := c.toNat_lt
    have e1 : ((c.toNat : Nat) : Int).tmod 128 = ((c.toNat % 128 : Nat) : Int) := tmod_nat c.toNat 128
    have h7k : IntKind.i64.wrap (7 * (k : Int)) = ((7 * k : Nat) : Int) := by rw [wrap64 (by omega) (by omega)]; omega
    simp only [go_sem, reduceIte, Nat.reduceEqDiff, Nat.reduceAdd, Nat.reduceMul, Nat.reduceSub, Nat.reduceLeDiff, Nat.reduceLT, reduceCtorEq]
    refine aw_sr rfl ?_  -- r6
    simp only [go_sem, reduceIte, Nat.reduceEqDiff, Nat.reduceAdd, Nat.reduceMul, Nat.reduceSub, Nat.reduceLeDiff, Nat.reduceLT, reduceCtorEq, e1, h7k, Int.toNat_natCast]
    refine ⟨by decide, by omega, ?_⟩
    obtain ⟨n', hn', hn2⟩ := wrapU ((n : Int) + IntKind.u64.wrap (IntKind.u64.wrap ((c.toNat % 128 : Nat) : Int) * 2 ^ (Nat.min (7 * k) 64)))
    rw [hn']
    have hcan2 : ∀ (x : Nat) (r : List UInt8), rest = natB x ++ r → x < 18446744073709551616 → ok = true → bd' = true ∧ n' = x % 2 ^ (7 * (k + 1)) ∧ ((c.toNat < 128 ∧ x < 2 ^ (7 * (k + 1)) ∧ rs' = r) ∨ (¬ c.toNat < 128 ∧ rs' = natB (x / 2 ^ (7 * (k + 1))) ++ r ∧ 1 ≤ x / 2 ^ (7 * (k + 1)))) := by
      intro x r h1 h2 h3
      obtain ⟨p1, p2, p3, p4⟩ := hcan x r h1 h2 h3
      rcases hc with ⟨q1, q2, q3⟩ | ⟨q1, q2⟩
      · exfalso
        rw [q1] at p3
        have := congrArg List.length p3
        have hp := natB_pos (x / 2 ^ (7 * k))
        simp only [List.length_nil, List.length_append] at this
        omega
      · rw [q1] at p3
        have hd : x / 2 ^ (7 * (k + 1)) = x / 2 ^ (7 * k) / 128 := by
          rw [show 7 * (k + 1) = 7 * k + 7 from by omega, Nat.pow_add, ← Nat.div_div_eq_div_mul]
        rcases nat_step p3 with ⟨o1, o2, o3, o4⟩ | ⟨o1, o2, o3, o4⟩
        · rw [num_bits2 h2 hk10 o3 p2] at hn'
          refine ⟨by rw [q2, p1], by omega, .inl ⟨o1, ?_, o4⟩⟩
          rw [show 7 * (k + 1) = 7 * k + 7 from by omega, Nat.pow_add, Nat.mul_comm]
          exact (Nat.div_lt_iff_lt_mul (Nat.pow_pos (by decide))).1 o2
        · rw [num_bits2 h2 hk10 o3 p2] at hn'
          exact ⟨by rw [q2, p1], by omega, .inr ⟨o1, by rw [hd]; exact o4, by rw [hd]; omega⟩⟩
    have hrl2 : rs'.length ≤ rest.length := by
      rcases hc with ⟨q1, q2, q3⟩ | ⟨q1, q2⟩
      · rw [q2]; exact Nat.zero_le _
      · rw [q1, List.length_cons] at hrl; omega
    have hst2 : bd' = true → ok = true ∧ rs'.length < rest.length := fun e => by
      rcases hc with ⟨q1, q2, q3⟩ | ⟨q1, q2⟩
      · rw [q3] at e; cases e
      · have := (hst (q2 ▸ e)).1
        rw [q1, List.length_cons] at hrl
        exact ⟨this, by omega⟩
    have em : ((n' : Nat) : Int).tmod 2 = ((n' % 2 : Nat) : Int) := tmod_nat n' 2
    have ed : ((n' : Nat) : Int).tdiv 2 = ((n' / 2 : Nat) : Int) := by rw [Int.tdiv_eq_ediv_of_nonneg (by omega)]; rfl
    have ewm : IntKind.u64.wrap ((n' % 2 : Nat) : Int) = ((n' % 2 : Nat) : Int) := by rw [wrap_u64]; omega
    have ewd : IntKind.u64.wrap ((n' / 2 : Nat) : Int) = ((n' / 2 : Nat) : Int) := by rw [wrap_u64]; omega
    have ewi : IntKind.i64.wrap ((n' / 2 : Nat) : Int) = ((n' / 2 : Nat) : Int) := wrap64 (by omega) (by omega)
    refine aw_sr rfl ?_  -- r7
    simp only [go_sem, reduceIte, Nat.reduceEqDiff, Nat.reduceAdd, Nat.reduceMul, Nat.reduceSub, Nat.reduceLeDiff, Nat.reduceLT, reduceCtorEq]
    refine aw_if rfl (fun h => ?_) (fun h => ?_)
    · have hc8 : c.toNat < 128 := by rw [decide_eq_true_eq] at h; omega
      have hcan3 : ∀ (x : Int) (r : List UInt8), rest = natB (numN x) ++ r → (IntKind.i64.min ≤ x ∧ x ≤ IntKind.i64.max) → ok = true → n' = numN x ∧ rs' = r ∧ bd' = true := by
        intro x r h1 h2 h3
        obtain ⟨p1, p2, p3⟩ := hcan2 _ r h1 (numN_lt h2) h3
        rcases p3 with ⟨_, o2, o3⟩ | ⟨o1, _⟩
        · exact ⟨by rw [p2, Nat.mod_eq_of_lt o2], o3, p1⟩
        · exact absurd hc8 o1
      refine aw_seq fun K4 hK4 => ?_
      refine aw_sr rfl ?_  -- r8
      simp only [go_sem, reduceIte, Nat.reduceEqDiff, Nat.reduceAdd, Nat.reduceMul, Nat.reduceSub, Nat.reduceLeDiff, Nat.reduceLT, reduceCtorEq, em, ewm]
      refine ⟨by decide, ?_⟩
      refine aw_if rfl (fun h => ?_) (fun h => ?_)
      · have ho : n' % 2 = 1 := by rw [decide_eq_true_eq] at h; omega
        refine aw_sr rfl ?_  -- r9
        simp only [go_sem, reduceIte, Nat.reduceEqDiff, Nat.reduceAdd, Nat.reduceMul, Nat.reduceSub, Nat.reduceLeDiff, Nat.reduceLT, reduceCtorEq, ed, ewd, ewi]
        refine ⟨by decide, ?_⟩
        rw [wrap64 (n := 0 - ((n' / 2 : Nat) : Int)) (by omega) (by omega), wrap64 (by omega) (by omega)]
        refine aw_ret ⟨trivial, _, rfl, _, rs', bd', ?_, rfl, hR1, hKB.trans hKB1, hrl2, hst2, ?_⟩
        · show -9223372036854775808 ≤ 0 - ((n' / 2 : Nat) : Int) - 1 ∧ 0 - ((n' / 2 : Nat) : Int) - 1 ≤ 9223372036854775807
          omega
        · intro x r h1 h2 h3
          obtain ⟨p1, p2, p3⟩ := hcan3 x r h1 h2 h3
          refine ⟨?_, p2, p3⟩
          rw [p1] at ho ⊢
          have := num_odd h2 ho
          omega
      refine aw_skip (hK4 _ _ ?_)
      have ho : ¬ n' % 2 = 1 := by rw [decide_eq_false_iff_not] at h; omega
      refine aw_sr rfl ?_  -- r10
      simp only [go_sem, reduceIte, Nat.reduceEqDiff, Nat.reduceAdd, Nat.reduceMul, Nat.reduceSub, Nat.reduceLeDiff, Nat.reduceLT, reduceCtorEq, ed, ewd, ewi]
      refine ⟨by decide, ?_⟩
      refine aw_ret ⟨trivial, _, rfl, _, rs', bd', ?_, rfl, hR1, hKB.trans hKB1, hrl2, hst2, ?_⟩
      · show -9223372036854775808 ≤ ((n' / 2 : Nat) : Int) ∧ ((n' / 2 : Nat) : Int) ≤ 9223372036854775807
        omega
      · intro x r h1 h2 h3
        obtain ⟨p1, p2, p3⟩ := hcan3 x r h1 h2 h3
        refine ⟨?_, p2, p3⟩
        rw [p1] at ho ⊢
        exact (num_even h2 ho).symm
    have hc8 : ¬ c.toNat < 128 := by rw [decide_eq_false_iff_not] at h; omega
    refine aw_skip (hK3 _ _ ?_)
    refine aw_rg rfl ?_  -- r4
    simp only [go_sem, reduceIte, Nat.reduceEqDiff, Nat.reduceAdd, Nat.reduceMul, Nat.reduceSub, Nat.reduceLeDiff, Nat.reduceLT, reduceCtorEq]
    refine ⟨⟨(k + 1, n', rs', bd', G1), by show k + 1 ≤ 10; omega, hn2, hR1, hKB.trans hKB1, hrl2, fun h => ⟨(hst2 h).1, fun _ => (hst2 h).2⟩, ?_⟩, by show 10 - (k + 1) < 10 - k; omega, ⟨rfl, rfl, ?_⟩, fun _ _ h => h⟩
    · intro x r h1 h2 h3
      obtain ⟨p1, p2, p3⟩ := hcan2 x r h1 h2 h3
      rcases p3 with ⟨o1, _⟩ | ⟨_, o2, o3⟩
      · exact absurd o1 hc8
      · exact ⟨p1, p2, o2, .inr o3⟩
    · show some (V.int .i64 (IntKind.i64.wrap ((k : Int) + 1))) = some (V.int .i64 ((k + 1 : Nat) : Int))
      rw [wrap64 (by omega) (by omega)]; rfl
  · have hk10 : k = 10 := by
      rw [decide_eq_false_iff_not] at h
      omega
    refine aw_exit ?_  -- 0
    refine hK1 _ _ ?_
    refine aw_sr rfl ?_  -- r11
    simp only [go_sem, reduceIte, Nat.reduceEqDiff, Nat.reduceAdd, Nat.reduceMul, Nat.reduceSub, Nat.reduceLeDiff, Nat.reduceLT, reduceCtorEq, hR']
    refine aw_sr rfl ?_  -- r12
    simp only [go_sem, reduceIte, Nat.reduceEqDiff, Nat.reduceAdd, Nat.reduceMul, Nat.reduceSub, Nat.reduceLeDiff, Nat.reduceLT, reduceCtorEq]
    refine aw_ret ⟨trivial, _, rfl, 0, rs, false, by decide, rfl, hget_hset_self hR', hKB.trans (KB.hset _ _ _), hrl, (fun h => by cases h), ?_⟩
    intro x r h1 h2 h3
    have hx := numN_lt h2
    obtain ⟨p1, p2, p3, p4⟩ := hcan _ r h1 hx h3
    exfalso
    rw [hk10, Nat.div_eq_of_lt (show numN x < 2 ^ (7 * 10) from Nat.lt_trans hx (by decide))] at p4
    omega
def ttextQ (br : Nat) (nl : Bool) (rest : List UInt8) (ok : Bool) (G : Heap) (y : V) (G' : Heap) : Prop :=
  ∃ (t rest' : List UInt8) (ok' : Bool), t.length ≤ 4000 ∧ y = .str t ∧ Tk G' br nl rest' ok' ∧ KB br G G' ∧ rest'.length ≤ rest.length ∧ (ok' = true → ok = true ∧ rest'.length < rest.length) ∧
    ∀ (x r : List UInt8), rest = textB x ++ r → x.length ≤ 4000 → ok = true → t = x ∧ rest' = r ∧ ok' = true
theorem a_ttext (br : Nat) (nl : Bool) (rest : List UInt8) (ok : Bool) (G : Heap) (hl : rest.length ≤ 1099511627776) (hG : Tk G br nl rest ok) :
    ACall Tryz.prog 88 [.ptr br 0] (ttextQ br nl rest ok G) G := by
  refine acall_body (rs := [.tmp 2]) Tryz.func88 rfl rfl Tryz.ntmps88 (by kernel_rfl) (Nat.le_of_ble_eq_true rfl) ?_
  refine aw_sr rfl ?_  -- r0
  simp only [go_sem, reduceIte, Nat.reduceEqDiff, Nat.reduceAdd, Nat.reduceMul, Nat.reduceSub, Nat.reduceLeDiff, Nat.reduceLT, reduceCtorEq]
  refine aw_sr rfl ?_  -- r1
  simp only [go_sem, reduceIte, Nat.reduceEqDiff, Nat.reduceAdd, Nat.reduceMul, Nat.reduceSub, Nat.reduceLeDiff, Nat.reduceLT, reduceCtorEq]
  refine goA_by (a_tnat br nl rest ok G hl hG) fun y G1 hy => ?_
  obtain ⟨n, rest', ok', hn, rfl, hR1, hKB, hlen, hst, hcan⟩ := hy
  have hR1' : hget G1 br = some (.vars [.sl (bytesV rest') nl .no, .bool ok']) := hR1
  simp only [go_sem, reduceIte, Nat.reduceEqDiff, Nat.reduceAdd, Nat.reduceMul, Nat.reduceSub, Nat.reduceLeDiff, Nat.reduceLT, reduceCtorEq]
  refine aw_seq fun K1 hK1 => ?_
  refine aw_sr rfl ?_  -- r2
  simp only [go_sem, reduceIte, Nat.reduceEqDiff, Nat.reduceAdd, Nat.reduceMul, Nat.reduceSub, Nat.reduceLeDiff, Nat.reduceLT, reduceCtorEq, hR1']
  have hcond : (decide ((n : Int) < 0) || decide ((rest'.length : Int) < (n : Int)) || decide (4000 < (n : Int))) = decide (rest'.length < n ∨ 4000 < n) := by
    rw [Bool.eq_iff_iff]; simp only [Bool.or_eq_true, decide_eq_true_eq]; omega
  refine aw_if rfl (fun h => ?_) (fun h => ?_)
  · simp only [Bool.or_eq_true, decide_eq_true_eq] at h
    refine aw_sr rfl ?_  -- r3
    simp only [go_sem, reduceIte, Nat.reduceEqDiff, Nat.reduceAdd, Nat.reduceMul, Nat.reduceSub, Nat.reduceLeDiff, Nat.reduceLT, reduceCtorEq, hR1']
    refine aw_sr rfl ?_  -- r4
    simp only [go_sem, reduceIte, Nat.reduceEqDiff, Nat.reduceAdd, Nat.reduceMul, Nat.reduceSub, Nat.reduceLeDiff, Nat.reduceLT, reduceCtorEq]
    refine aw_ret ⟨trivial, _, rfl, [], rest', false, Nat.zero_le _, rfl, hget_hset_self hR1', hKB.trans (KB.hset _ _ _), hlen, (fun h => by cases h), ?_⟩
    intro x r h1 h2 h3
    rw [textB, List.append_assoc] at h1
    obtain ⟨p1, p2, p3⟩ := hcan x.length (x ++ r) h1 (by omega) h3
    rw [p2, List.length_append] at h
    omega
  simp only [Bool.or_eq_false_iff, decide_eq_false_iff_not] at h
  refine aw_skip (hK1 _ _ ?_)
  have hb1 : (bytesV rest').take n = bytesV (rest'.take n) := by simp [bytesV, List.map_take]
  have hb2 : (bytesV rest').drop n = bytesV (rest'.drop n) := by simp [bytesV, List.map_drop]
  refine aw_sr rfl ?_  -- r5
  simp only [go_sem, reduceIte, Nat.reduceEqDiff, Nat.reduceAdd, Nat.reduceMul, Nat.reduceSub, Nat.reduceLeDiff, Nat.reduceLT, reduceCtorEq, hR1', Int.toNat_natCast, hb1]
  refine ⟨⟨⟨by omega, by omega⟩, wid_bytes _⟩, ?_⟩
  refine aw_sr rfl ?_  -- r6
  simp only [go_sem, reduceIte, Nat.reduceEqDiff, Nat.reduceAdd, Nat.reduceMul, Nat.reduceSub, Nat.reduceLeDiff, Nat.reduceLT, reduceCtorEq, hR1', Int.toNat_natCast, hb2, sliceTag_no, List.take_length]
  refine ⟨⟨⟨by omega, by omega⟩, wid_bytes _⟩, ?_⟩
  refine aw_sr rfl ?_  -- r7
  simp only [go_sem, reduceIte, Nat.reduceEqDiff, Nat.reduceAdd, Nat.reduceMul, Nat.reduceSub, Nat.reduceLeDiff, Nat.reduceLT, reduceCtorEq]
  refine aw_ret ⟨trivial, _, rfl, rest'.take n, rest'.drop n, ok', by rw [List.length_take]; omega, rfl, hget_hset_self hR1', hKB.trans (KB.hset _ _ _), by rw [List.length_drop]; omega, fun e => ⟨(hst e).1, by have := (hst e).2; rw [List.length_drop]; omega⟩, ?_⟩
  intro x r h1 h2 h3
  rw [textB, List.append_assoc] at h1
  obtain ⟨p1, p2, p3⟩ := hcan x.length (x ++ r) h1 (by omega) h3
  rw [p1, p2]
  exact ⟨List.take_left, List.drop_left, p3⟩
end Go.Proofs.YtlgfffngojlffaaGreat

/- A part of a value that is read. No conditions. -/
set_option linter.unusedSimpArgs false
set_option linter.unusedVariables false
namespace Go.Proofs.YtlgfffngojlffaaGreat
open Go.Proofs.YtlgfffngojlffaaGreatV
set_option maxHeartbeats 400000
set_option maxRecDepth 100000
/-- A heap but for one block. -/
def off (br : Nat) : Heap → Heap
  | [] => []
  | (b, o) :: G => if b = br then off br G else (b, o) :: off br G
theorem hget_off (br : Nat) : ∀ (G : Heap) (b : Nat), hget (off br G) b = if b = br then none else hget G b
  | [], b => by simp [off, hget]
  | (c, o) :: G, b => by
    have ih := hget_off br G b
    unfold off
    by_cases h : c = br
    · rw [if_pos h, ih, hget_cons]
      by_cases h2 : b = br
      · rw [if_pos h2, if_pos h2]
      · rw [if_neg h2, if_neg h2, if_neg (fun e => h2 (by omega))]
    · rw [if_neg h, hget_cons, hget_cons, ih]
      by_cases h2 : c = b
      · rw [if_pos h2, if_pos h2, if_neg (by omega)]
      · rw [if_neg h2, if_neg h2]
theorem KB.off {br : Nat} {G H : Heap} (h : KB br G H) : Sub (off br G) H := fun b o hb => by
  rw [hget_off] at hb
  split at hb
  · cases hb
  · exact h b o (by assumption) hb
theorem KB.on {br : Nat} {G H : Heap} (h : Sub (Go.Proofs.YtlgfffngojlffaaGreat.off br G) H) : KB br G H := fun b o hn hb => h b o (by rw [hget_off, if_neg hn]; exact hb)
theorem KB.fresh {br b : Nat} {G H : Heap} (h : KB br G H) (hb : hget G b = none) (x : AObj) : KB br G (Go.Proofs.YtlgfffngojlffaaGreatV.hset H b x) :=
  KB.on (sub_hset_fresh (by rw [hget_off]; split <;> first | rfl | exact hb) h.off)
theorem KB.none {br b : Nat} {G H : Heap} (h : KB br G H) (hn : ¬ b = br) (hb : hget H b = none) : hget G b = none := by
  cases e : hget G b with
  | none => rfl
  | some o => have := h _ _ hn e; rw [hb] at this; cases this
theorem Rm.kb {br n : Nat} {G H H' : Heap} {t : Tag} {cs : List V} (h : Rm G H n t) (hk : KB br H H') (hv : hget H br = some (.vars cs)) : Rm G H' n t := by
  rcases h with h | ⟨b, e, c, h1, h2, h3⟩
  · exact .inl h
  · refine .inr ⟨b, e, c, h1, hk _ _ (fun e => ?_) h2, h3⟩
    rw [e, hv] at h2; cases h2
/-- A value as a reader may make one. -/
inductive Fine : Val → Prop
  | mk {k n : Int} {t : List UInt8} {ar : List Val} (hk : 0 ≤ k ∧ k ≤ 255) (hn : IntKind.i64.min ≤ n ∧ n ≤ IntKind.i64.max) (ht : t.length ≤ 4000) (hl : ar.length ≤ 400) (ha : ∀ a ∈ ar, Fine a) : Fine (.mk k n t ar ar.isEmpty)
theorem Fine.ok {v : Val} (h : Fine v) : OkVal v := by
  induction h with
  | mk hk hn ht hl ha ih =>
    have h1 : IntKind.i64.min = -9223372036854775808 := rfl
    have h2 : IntKind.i64.max = 9223372036854775807 := rfl
    have h3 : bulk = 1048576 := rfl
    exact .mk (by rw [h1, h2]; omega) hn (by rw [h3]; omega) (fun e => List.isEmpty_iff.1 e) (by rw [h3]; omega) ih
theorem Fine.arg {v a : Val} (h : Fine v) (ha : a ∈ v.args) : Fine a := by cases h; rename_i h'; exact h' a ha
theorem Fine.kind {v : Val} (h : Fine v) : 0 ≤ v.kind ∧ v.kind ≤ 255 := by cases h; assumption
theorem Fine.num {v : Val} (h : Fine v) : IntKind.i64.min ≤ v.num ∧ v.num ≤ IntKind.i64.max := by cases h; assumption
theorem Fine.text {v : Val} (h : Fine v) : v.text.length ≤ 4000 := by cases h; assumption
theorem Fine.len {v : Val} (h : Fine v) : v.args.length ≤ 400 := by cases h; assumption
theorem Fine.eq {v : Val} (h : Fine v) : v = .mk v.kind v.num v.text v.args v.args.isEmpty := by cases h; rfl
theorem deeps_mem2 {v : Val} : ∀ {l : List Val}, v ∈ l → v.deep ≤ deeps l
  | u :: l, h => by
    simp only [deeps]
    rcases List.mem_cons.1 h with rfl | h
    · exact Nat.le_max_left _ _
    · exact Nat.le_trans (deeps_mem2 h) (Nat.le_max_right _ _)
theorem u8_nat {k : Int} (h : 0 ≤ k ∧ k ≤ 255) : ((u8 k).toNat : Int) = k := by rw [u8_cast, wrap_u8]; omega
def Val.zero : Val := .mk 0 0 [] [] true
theorem Fine.zero : Fine Val.zero := .mk (ar := []) (by decide) (by decide) (by decide) (by decide) (by simp)
def partQ (br : Nat) (nl : Bool) (rest : List UInt8) (bad : Bool) (left : Int) (d : Nat) (G : Heap) (y : V) (G' : Heap) : Prop :=
  ∃ (v : Val) (rest' : List UInt8) (bad' : Bool) (left' : Int), Fine v ∧ y = .agg (cV v) ∧ Rd G' br nl rest' bad' left' ∧ KB br G G' ∧ rest'.length ≤ rest.length ∧ left' = left - v.sz ∧ -1 ≤ left' ∧ (bad' = false → 0 ≤ left') ∧
    ∀ (x : Val) (r : List UInt8), rest = encV x ++ r → Fine x → d + x.deep ≤ 41 → x.sz ≤ left → bad = false → v = x ∧ rest' = r ∧ bad' = false
theorem a_rpart0 (br : Nat) (nl : Bool) (d : Nat) (hd : d ≤ 41) (ih : d ≤ 40 → ∀ (rest : List UInt8) (bad : Bool) (left : Int) (G : Heap), rest.length ≤ 1099511627776 → 0 ≤ left ∧ left ≤ 400 → Rd G br nl rest bad left →
    ACall Tryz.prog 96 [.ptr br 0, .int .i64 ((d + 1 : Nat) : Int)] (partQ br nl rest bad left (d + 1) G) G) (rest : List UInt8) (bad : Bool) (left : Int) (G : Heap) (hl : rest.length ≤ 1099511627776) (hleft : 0 ≤ left ∧ left ≤ 400) (hG : Rd G br nl rest bad left) :
    ACall Tryz.prog 96 [.ptr br 0, .int .i64 (d : Nat)] (partQ br nl rest bad left d G) G := by
  have hG' : hget G br = some (.vars [.sl (bytesV rest) nl .no, .bool bad, .int .i64 left]) := hG
  refine ACall.weak ?_
  refine acall_body (rs := [.cell 4 55]) Tryz.func96 rfl rfl Tryz.ntmps96 (by kernel_rfl) (Nat.le_of_ble_eq_true rfl) ?_
  refine aw_sr rfl ?_  -- r0 @value.go:171
  simp only [go_sem, reduceIte, Nat.reduceEqDiff, Nat.reduceAdd, Nat.reduceMul, Nat.reduceSub, Nat.reduceLeDiff, Nat.reduceLT, reduceCtorEq]
  intro b4 hb4
  have ne4 : ¬ b4 = br := fun e => ne_fresh hG' hb4 e.symm
  refine aw_box1 hb4 fun B1 hs1 h4 => ?_
  have hR1 := hs1 _ _ hG'
  refine aw_sr rfl ?_  -- r1 @value.go:172
  simp only [go_sem, reduceIte, Nat.reduceEqDiff, Nat.reduceAdd, Nat.reduceMul, Nat.reduceSub, Nat.reduceLeDiff, Nat.reduceLT, reduceCtorEq, hR1, wrap64 (show -9223372036854775808 ≤ left - 1 by omega) (show left - 1 ≤ 9223372036854775807 by omega)]
  have hR2 := hget_hset_self (y := .vars [.sl (bytesV rest) nl .no, .bool bad, .int .i64 (left - 1)]) hR1
  have h42 := hset_keep (x := .vars [.sl (bytesV rest) nl .no, .bool bad, .int .i64 (left - 1)]) h4 ne4
  have k2 : KB br G (hset B1 br (.vars [.sl (bytesV rest) nl .no, .bool bad, .int .i64 (left - 1)])) := KB.trans (B := B1) (fun b o _ h => hs1 _ _ h) (KB.hset _ _ _)
  generalize hset B1 br (.vars [.sl (bytesV rest) nl .no, .bool bad, .int .i64 (left - 1)]) = B2 at hR2 h42 k2 ⊢
  refine aw_seq fun K1 hK1 => ?_
  refine aw_sr rfl ?_  -- r2 @value.go:173
  simp only [go_sem, reduceIte, Nat.reduceEqDiff, Nat.reduceAdd, Nat.reduceMul, Nat.reduceSub, Nat.reduceLeDiff, Nat.reduceLT, reduceCtorEq, hR2]
  have hR3 := hget_hset_self (y := .vars [.sl (bytesV rest) nl .no, .bool (bad || decide (left - 1 < 0) || decide (40 < (d : Int))), .int .i64 (left - 1)]) hR2
  have h43 := hset_keep (x := .vars [.sl (bytesV rest) nl .no, .bool (bad || decide (left - 1 < 0) || decide (40 < (d : Int))), .int .i64 (left - 1)]) h42 ne4
  have k3 := k2.trans (KB.hset _ _ (.vars [.sl (bytesV rest) nl .no, .bool (bad || decide (left - 1 < 0) || decide (40 < (d : Int))), .int .i64 (left - 1)]))
  generalize hset B2 br (.vars [.sl (bytesV rest) nl .no, .bool (bad || decide (left - 1 < 0) || decide (40 < (d : Int))), .int .i64 (left - 1)]) = B3 at hR3 h43 k3 ⊢
  generalize hbd : (bad || decide (left - 1 < 0) || decide (40 < (d : Int))) = bd at hR3 ⊢
  refine aw_sr rfl ?_  -- r3 @value.go:173
  simp only [go_sem, reduceIte, Nat.reduceEqDiff, Nat.reduceAdd, Nat.reduceMul, Nat.reduceSub, Nat.reduceLeDiff, Nat.reduceLT, reduceCtorEq, hR3]
  refine aw_if rfl (fun h => ?_) (fun h => ?_)
  · refine aw_sr rfl ?_  -- r4 @value.go:174
    simp only [go_sem, reduceIte, Nat.reduceEqDiff, Nat.reduceAdd, Nat.reduceMul, Nat.reduceSub, Nat.reduceLeDiff, Nat.reduceLT, reduceCtorEq, h43]
    have hh : bd = true := h
    have h44 := hget_hset_self (y := .vars [.int .i64 0, .int .i64 0, .str [], .sl [] true .full]) h43
    refine aw_ret ⟨trivial, ?_⟩
    simp only [go_sem, reduceIte, Nat.reduceEqDiff, Nat.reduceAdd, Nat.reduceMul, Nat.reduceSub, Nat.reduceLeDiff, Nat.reduceLT, reduceCtorEq, resL, resOf, h44]
    refine ⟨_, rfl, .agg (cV Val.zero), _, ?_, sub_rfl, Val.zero, rest, bd, left - 1, Fine.zero, rfl, hset_keep hR3 (fun e => ne4 e.symm), k3.fresh hb4 _, Nat.le_refl _, rfl, by omega, ?_, ?_⟩
    · exact Vle.aggL (.cons (Vle.refl _) (.cons (Vle.refl _) (.cons (Vle.refl _) (.cons Vle.untag .nil))))
    · intro e; rw [hh] at e; cases e
    · intro x r h1 h2 h3 h4 h5
      have hdp := deep_eq x
      have hsz := x.sz_eq
      rw [hh, h5] at hbd
      simp only [Bool.false_or, Bool.or_eq_true, decide_eq_true_eq] at hbd
      omega
  refine aw_skip (hK1 _ _ ?_)
  have hh : bd = false := h
  subst hh
  simp only [Bool.or_eq_false_iff, decide_eq_false_iff_not] at hbd
  refine aw_sr rfl ?_  -- r5 @value.go:176
  simp only [go_sem, reduceIte, Nat.reduceEqDiff, Nat.reduceAdd, Nat.reduceMul, Nat.reduceSub, Nat.reduceLeDiff, Nat.reduceLT, reduceCtorEq]
  refine goA_by (a_rbyte br nl rest false (left - 1) B3 hl hR3) fun y G1 hy => ?_
  obtain ⟨c, rest1, bad1, rfl, hR4, k4, hc⟩ := hy
  have hl1 : rest1.length ≤ rest.length := by
    rcases hc with ⟨q1, q2, q3⟩ | ⟨q1, q2⟩
    · rw [q2]; exact Nat.zero_le _
    · rw [q1, List.length_cons]; omega
  have hwc : IntKind.i64.wrap ((c.toNat : Nat) : Int) = ((c.toNat : Nat) : Int) := by have := c.toNat_lt; rw [wrap64 (by omega) (by omega)]
  simp only [go_sem, reduceIte, Nat.reduceEqDiff, Nat.reduceAdd, Nat.reduceMul, Nat.reduceSub, Nat.reduceLeDiff, Nat.reduceLT, reduceCtorEq, hwc]
  intro b5 hb5
  have ne5 : ¬ b5 = br := fun e => ne_fresh hR4 hb5 e.symm
  have ne54 : ¬ b5 = b4 := fun e => ne_fresh (k4 _ _ ne4 h43) hb5 e.symm
  have hG5 : hget G b5 = none := (k3.trans k4).none ne5 hb5
  refine aw_box1 hb5 fun B5 hs5 h5 => ?_
  have h45 := hs5 _ _ (k4 _ _ ne4 h43)
  have hR5 : Rd B5 br nl rest1 bad1 (left - 1) := hs5 _ _ hR4
  have k5 := (k3.trans k4).sub hs5
  refine aw_sr rfl ?_  -- r6 @value.go:177
  simp only [go_sem, reduceIte, Nat.reduceEqDiff, Nat.reduceAdd, Nat.reduceMul, Nat.reduceSub, Nat.reduceLeDiff, Nat.reduceLT, reduceCtorEq]
  refine goA_by (a_rnum br nl rest1 bad1 (left - 1) B5 (by omega) hR5) fun y G2 hy => ?_
  obtain ⟨num, rest2, bad2, hnum, rfl, hR6, k6, hl6, hc6⟩ := hy
  have h56 := k6 _ _ ne5 h5
  simp only [go_sem, reduceIte, Nat.reduceEqDiff, Nat.reduceAdd, Nat.reduceMul, Nat.reduceSub, Nat.reduceLeDiff, Nat.reduceLT, reduceCtorEq, h56]
  have h57 := hget_hset_self (y := .vars [.int .i64 ((c.toNat : Nat) : Int), .int .i64 num, .str [], .sl [] true .full]) h56
  have h47 := hset_keep (x := .vars [.int .i64 ((c.toNat : Nat) : Int), .int .i64 num, .str [], .sl [] true .full]) (k6 _ _ ne4 h45) (fun e => ne54 e.symm)
  have hR7 : Rd _ br nl rest2 bad2 (left - 1) := hset_keep (x := .vars [.int .i64 ((c.toNat : Nat) : Int), .int .i64 num, .str [], .sl [] true .full]) hR6 (fun e => ne5 e.symm)
  have k7 := (k5.trans k6).fresh hG5 (.vars [.int .i64 ((c.toNat : Nat) : Int), .int .i64 num, .str [], .sl [] true .full])
  generalize hset G2 b5 (.vars [.int .i64 ((c.toNat : Nat) : Int), .int .i64 num, .str [], .sl [] true .full]) = B7 at h57 h47 hR7 k7 ⊢
  refine aw_sr rfl ?_  -- r7 @value.go:178
  simp only [go_sem, reduceIte, Nat.reduceEqDiff, Nat.reduceAdd, Nat.reduceMul, Nat.reduceSub, Nat.reduceLeDiff, Nat.reduceLT, reduceCtorEq]
  refine goA_by (a_rtext br nl rest2 bad2 (left - 1) B7 (by omega) hR7) fun y G3 hy => ?_
  obtain ⟨txt, rest3, bad3, htxt, rfl, hR8, k8, hl8, hc8⟩ := hy
  have h58 := k8 _ _ ne5 h57
  simp only [go_sem, reduceIte, Nat.reduceEqDiff, Nat.reduceAdd, Nat.reduceMul, Nat.reduceSub, Nat.reduceLeDiff, Nat.reduceLT, reduceCtorEq, h58]
  have h59 := hget_hset_self (y := .vars [.int .i64 ((c.toNat : Nat) : Int), .int .i64 num, .str txt, .sl [] true .full]) h58
  have h49 := hset_keep (x := .vars [.int .i64 ((c.toNat : Nat) : Int), .int .i64 num, .str txt, .sl [] true .full]) (k8 _ _ ne4 h47) (fun e => ne54 e.symm)
  have hR9 : Rd _ br nl rest3 bad3 (left - 1) := hset_keep (x := .vars [.int .i64 ((c.toNat : Nat) : Int), .int .i64 num, .str txt, .sl [] true .full]) hR8 (fun e => ne5 e.symm)
  have k9 := (k7.trans k8).fresh hG5 (.vars [.int .i64 ((c.toNat : Nat) : Int), .int .i64 num, .str txt, .sl [] true .full])
  generalize hset G3 b5 (.vars [.int .i64 ((c.toNat : Nat) : Int), .int .i64 num, .str txt, .sl [] true .full]) = B9 at h59 h49 hR9 k9 ⊢
  refine aw_seq fun K2 hK2 => ?_
  refine aw_sr rfl ?_  -- r8 @value.go:179
  simp only [go_sem, reduceIte, Nat.reduceEqDiff, Nat.reduceAdd, Nat.reduceMul, Nat.reduceSub, Nat.reduceLeDiff, Nat.reduceLT, reduceCtorEq]
  refine goA_by (a_rmany br nl rest3 bad3 (left - 1) 400 B9 (by decide) (by omega) hR9) fun y G4 hy => ?_
  obtain ⟨m0, rest4, bad4, hm0, rfl, hR10, k10, hl10, hc10⟩ := hy
  simp only [go_sem, reduceIte, Nat.reduceEqDiff, Nat.reduceAdd, Nat.reduceMul, Nat.reduceSub, Nat.reduceLeDiff, Nat.reduceLT, reduceCtorEq]
  refine aw_block ?_  -- 0
  refine aw_lph (S := {s : List Val × Nat × Tag × List UInt8 × Bool × Heap // (∀ a ∈ s.1, Fine a) ∧ s.1.length + s.2.1 ≤ 400 ∧ -1 ≤ left - 1 - szs s.1 ∧ (s.2.2.2.2.1 = false → 0 ≤ left - 1 - szs s.1) ∧ Rd s.2.2.2.2.2 br nl s.2.2.2.1 s.2.2.2.2.1 (left - 1 - szs s.1) ∧
      hget s.2.2.2.2.2 b5 = some (.vars [.int .i64 ((c.toNat : Nat) : Int), .int .i64 num, .str txt, .sl (s.1.map eVal) s.1.isEmpty s.2.2.1]) ∧ Rm (off br G) s.2.2.2.2.2 4 s.2.2.1 ∧
      hget s.2.2.2.2.2 b4 = some (.vars [.int .i64 0, .int .i64 0, .str [], .sl [] true .full]) ∧ KB br G s.2.2.2.2.2 ∧ s.2.2.2.1.length ≤ rest.length ∧
      ∀ (x : Val) (r : List UInt8), rest = encV x ++ r → Fine x → d + x.deep ≤ 41 → x.sz ≤ left → bad = false → s.2.2.2.2.1 = false ∧ (c.toNat : Int) = x.kind ∧ num = x.num ∧ txt = x.text ∧ s.1 = x.args.take s.1.length ∧ s.1.length + s.2.1 = x.args.length ∧ s.2.2.2.1 = encVs (x.args.drop s.1.length) ++ r})
    (fun s => [(0, .ptr br 0), (1, .int .i64 (d : Nat)), (4, .ptr b4 0), (5, .ptr b5 0), (6, .int .i64 ((s.1.2.1 : Nat) : Int))]) (fun s => s.1.2.2.2.2.2) (fun s => s.1.2.1)
    ⟨([], m0, .full, rest4, bad4, G4), by simp, by simpa using hm0, by simp [szs]; omega, by simp [szs]; omega, by simpa [szs] using hR10, k10 _ _ ne5 h59, Rm.start _ _ _, k10 _ _ ne4 h49, k9.trans k10, by show rest4.length ≤ _; omega, ?_⟩ ?_ (fun _ _ h => h) ?_
  · intro x r h1 h2 h3 h4 h5
    rw [encV_eq, List.cons_append, List.append_assoc, List.append_assoc, List.append_assoc] at h1
    rcases hc with ⟨q1, q2, q3⟩ | ⟨q1, q2⟩
    · rw [q1] at h1; cases h1
    rw [q1] at h1
    obtain ⟨g1, g2⟩ := List.cons.inj h1
    obtain ⟨e1, e2, e3⟩ := hc6 _ _ g2 h2.num q2
    obtain ⟨e4, e5, e6⟩ := hc8 _ _ e2 h2.text e3
    obtain ⟨e7, e8, e9⟩ := hc10 _ _ e5 h2.len e6
    refine ⟨e9, by rw [g1]; exact u8_nat h2.kind, e1, e4, rfl, ?_, ?_⟩
    · show 0 + m0 = _; omega
    · exact e8
  · simp only [go_sem, reduceIte, Nat.reduceEqDiff, Nat.reduceAdd, Nat.reduceMul, Nat.reduceSub, Nat.reduceLeDiff, Nat.reduceLT, reduceCtorEq]
  intro ⟨⟨as_, m, t, rs, bd, H⟩, i1, i2, i3, i4, i5, i6, i7, i8, i9, i10, i11⟩
  simp only at i1 i2 i3 i4 i5 i6 i7 i8 i9 i10 i11 ⊢
  have i5' : hget H br = some (.vars [.sl (bytesV rs) nl .no, .bool bd, .int .i64 (left - 1 - szs as_)]) := i5
  refine aw_seq fun K3 hK3 => ?_
  refine aw_sr rfl ?_  -- r9 @value.go:179
  simp only [go_sem, reduceIte, Nat.reduceEqDiff, Nat.reduceAdd, Nat.reduceMul, Nat.reduceSub, Nat.reduceLeDiff, Nat.reduceLT, reduceCtorEq, i5']
  refine aw_if rfl (fun h => ?_) (fun h => ?_)
  · have hmb : 0 < m ∧ bd = false := by
      rw [Bool.and_eq_true] at h
      obtain ⟨q1, q2⟩ := h
      rw [decide_eq_true_eq] at q1
      exact ⟨by omega, by simpa using q2⟩
    obtain ⟨hm, rfl⟩ := hmb
    have i4 := i4 rfl
    refine aw_skip (hK3 _ _ ?_)
    refine aw_seq fun K4 hK4 => ?_
    refine aw_block ?_  -- 1
    refine aw_rgf [(0,true),(2,true),(3,true),(4,true)] 1 5 [(5,false),(6,true),(7,false),(8,true),(9,false)] [(6,true),(1,false),(7,false),(8,true),(9,false)] mixed rfl (by kernel_rfl) ?_  -- r11 @value.go:180
    have hwd : IntKind.i64.wrap ((d : Int) + 1) = ((d + 1 : Nat) : Int) := by rw [wrap64 (by omega) (by omega)]; rfl
    have hd40 : d ≤ 40 := by have := hbd.2; omega
    simp only [go_sem, reduceIte, Nat.reduceEqDiff, Nat.reduceAdd, Nat.reduceMul, Nat.reduceSub, Nat.reduceLeDiff, Nat.reduceLT, reduceCtorEq, i6, hwd]
    refine ⟨?_, ?_⟩
    all_goals
      refine goA_by (ih hd40 rs false (left - 1 - szs as_) H (by omega) (by omega) i5) fun y G1 hy => ?_
      obtain ⟨v, rs', bd', left', hv, rfl, j1, jk, j2, j3, j4, j5, j6⟩ := hy
      have k6 := jk _ _ ne5 i6
      have k8 := jk _ _ ne4 i8
      have kr := Rm.kb i7 jk i5'
      have happ : as_.map eVal ++ [[.int .i64 v.kind, .int .i64 v.num, .str v.text, .sl (v.args.map eVal) v.nl .no]] = (as_ ++ [v]).map eVal := by rw [List.map_append, List.map_cons, List.map_nil, eC]
      have hz : left - 1 - szs (as_ ++ [v]) = left' := by rw [szs_append]; simp only [szs]; omega
      simp only [go_sem, reduceIte, Nat.reduceEqDiff, Nat.reduceAdd, Nat.reduceMul, Nat.reduceSub, Nat.reduceLeDiff, Nat.reduceLT, reduceCtorEq, k6]
      refine goP_rm kr (i9.trans jk).off ?_ fun t1 H1 hr1 hs1 hg1 => ?_
      · exact ⟨rfl, rfl, by decide, wid_map (g := eVal) (fun _ => by simp [eC, cV]) _, wid_one rfl, sca_one rfl, by simp; omega, by simp; omega⟩
      simp only [go_sem, reduceIte, Nat.reduceEqDiff, Nat.reduceAdd, Nat.reduceMul, Nat.reduceSub, Nat.reduceLeDiff, Nat.reduceLT, reduceCtorEq, hg1.vars k6, happ, Bool.and_false]
      have hne : (as_ ++ [v]).isEmpty = false := by cases as_ <;> rfl
      refine hK4 _ _ ?_
      refine aw_rg rfl ?_  -- r10 @value.go:179
      simp only [go_sem, reduceIte, Nat.reduceEqDiff, Nat.reduceAdd, Nat.reduceMul, Nat.reduceSub, Nat.reduceLeDiff, Nat.reduceLT, reduceCtorEq]
      refine ⟨⟨(as_ ++ [v], m - 1, t1, rs', bd', _), ?_, ?_, ?_, ?_, ?_, ?_, hr1.hset (hg1.vars k6) (fun _ _ e => by cases e), hset_keep (hg1.vars k8) (fun e => ne54 e.symm), (KB.on hs1).fresh hG5 _, Nat.le_trans j2 i10, ?_⟩, ?_, ⟨rfl, rfl, rfl, rfl, ?_⟩, sub_rfl⟩
      · intro a ha
        rcases List.mem_append.1 ha with ha | ha
        · exact i1 a ha
        · rw [List.mem_singleton.1 ha]; exact hv
      · show (as_ ++ [v]).length + (m - 1) ≤ 400
        rw [List.length_append, List.length_singleton]; omega
      · show -1 ≤ left - 1 - szs (as_ ++ [v])
        rw [hz]; exact j4
      · show bd' = false → 0 ≤ left - 1 - szs (as_ ++ [v])
        rw [hz]; exact j5
      · show Rd _ br nl rs' bd' (left - 1 - szs (as_ ++ [v]))
        rw [hz]; exact hset_keep (hg1.vars j1) (fun e => ne5 e.symm)
      · show hget _ b5 = some (.vars [.int .i64 ((c.toNat : Nat) : Int), .int .i64 num, .str txt, .sl ((as_ ++ [v]).map eVal) (as_ ++ [v]).isEmpty t1])
        rw [hne]; exact hget_hset_self (hg1.vars k6)
      · intro x r h1 h2 h3 h4 h5
        obtain ⟨p1, p2, p3, p4, p5, p6, p7⟩ := i11 x r h1 h2 h3 h4 h5
        have hk : as_.length < x.args.length := by omega
        have hdrop : x.args.drop as_.length = x.args[as_.length] :: x.args.drop (as_.length + 1) := List.drop_eq_getElem_cons hk
        have hmem := List.getElem_mem hk
        have hsz := x.sz_eq
        have hsp := szs_append (x.args.take as_.length) (x.args.drop as_.length)
        rw [List.take_append_drop, ← p5, hdrop, szs] at hsp
        have hdp := deep_eq x
        have hdm := deeps_mem2 hmem
        rw [hdrop, encVs, List.append_assoc] at p7
        obtain ⟨q1, q2, q3⟩ := j6 _ _ p7 (h2.arg hmem) (by omega) (by omega) rfl
        refine ⟨q3, p2, p3, p4, ?_, ?_, ?_⟩
        · show as_ ++ [v] = x.args.take (as_ ++ [v]).length
          rw [List.length_append, List.length_singleton, List.take_succ_eq_append_getElem hk, ← p5, q1]
        · show (as_ ++ [v]).length + (m - 1) = x.args.length
          rw [List.length_append, List.length_singleton]; omega
        · show rs' = encVs (x.args.drop (as_ ++ [v]).length) ++ r
          rw [List.length_append, List.length_singleton]; exact q2
      · show m - 1 < m; omega
      · show some (V.int .i64 (IntKind.i64.wrap ((m : Int) - 1))) = some (V.int .i64 ((m - 1 : Nat) : Int))
        rw [wrap64 (by omega) (by omega)]; congr 2; omega
  · refine aw_exit ?_  -- 0
    refine hK2 _ _ ?_
    refine aw_sr rfl ?_  -- r12 @value.go:182
    simp only [go_sem, reduceIte, Nat.reduceEqDiff, Nat.reduceAdd, Nat.reduceMul, Nat.reduceSub, Nat.reduceLeDiff, Nat.reduceLT, reduceCtorEq, i6, i8]
    have h44 := hget_hset_self (y := .vars [.int .i64 ((c.toNat : Nat) : Int), .int .i64 num, .str txt, .sl (as_.map eVal) as_.isEmpty t]) i8
    refine aw_ret ⟨trivial, ?_⟩
    simp only [go_sem, reduceIte, Nat.reduceEqDiff, Nat.reduceAdd, Nat.reduceMul, Nat.reduceSub, Nat.reduceLeDiff, Nat.reduceLT, reduceCtorEq, resL, resOf, h44]
    have hcl := c.toNat_lt
    refine ⟨_, rfl, .agg (cV (.mk c.toNat num txt as_ as_.isEmpty)), _, ?_, sub_rfl, .mk c.toNat num txt as_ as_.isEmpty, rs, bd, left - 1 - szs as_, .mk (by omega) hnum htxt (by omega) i1, rfl, hset_keep i5 (fun e => ne4 e.symm), i9.fresh hb4 _, i10, by simp only [Val.sz]; omega, i3, i4, ?_⟩
    · exact Vle.aggL (.cons (Vle.refl _) (.cons (Vle.refl _) (.cons (Vle.refl _) (.cons Vle.untag .nil))))
    · intro x r h1 h2 h3 h4 h5
      obtain ⟨p1, p2, p3, p4, p5, p6, p7⟩ := i11 x r h1 h2 h3 h4 h5
      have hm0 : m = 0 := by
        rw [p1] at h
        by_cases hlt : (0 : Int) < (m : Int)
        · rw [decide_eq_true hlt] at h; exact absurd h (by decide)
        · omega
      have hlen : as_.length = x.args.length := by omega
      rw [hlen, List.take_length] at p5
      rw [hlen, List.drop_length, encVs, List.nil_append] at p7
      refine ⟨?_, p7, p1⟩
      rw [h2.eq, p2, p3, p4, p5]
theorem a_rpart1 (br : Nat) (nl : Bool) : ∀ (n d : Nat), d + n = 41 → ∀ (rest : List UInt8) (bad : Bool) (left : Int) (G : Heap), rest.length ≤ 1099511627776 → 0 ≤ left ∧ left ≤ 400 → Rd G br nl rest bad left →
    ACall Tryz.prog 96 [.ptr br 0, .int .i64 (d : Nat)] (partQ br nl rest bad left d G) G
  | 0, d, hd => fun rest bad left G h1 h2 h3 => a_rpart0 br nl d (by omega) (fun h => by omega) rest bad left G h1 h2 h3
  | n + 1, d, hd => fun rest bad left G h1 h2 h3 => a_rpart0 br nl d (by omega) (fun _ => a_rpart1 br nl n (d + 1) (by omega)) rest bad left G h1 h2 h3
/-- A value that comes next: as a part so deep as the first. -/
def valueQ (br : Nat) (nl : Bool) (rest : List UInt8) (bad : Bool) (G : Heap) (y : V) (G' : Heap) : Prop :=
  ∃ (v : Val) (rest' : List UInt8) (bad' : Bool) (left' : Int), Fine v ∧ y = .agg (cV v) ∧ Rd G' br nl rest' bad' left' ∧ KB br G G' ∧ rest'.length ≤ rest.length ∧ v.sz ≤ 401 ∧
    ∀ (x : Val) (r : List UInt8), rest = encV x ++ r → Fine x → x.deep ≤ 40 → x.sz ≤ 400 → bad = false → v = x ∧ rest' = r ∧ bad' = false
theorem a_rvalue (br : Nat) (nl : Bool) (rest : List UInt8) (bad : Bool) (left : Int) (G : Heap) (hl : rest.length ≤ 1099511627776) (hG : Rd G br nl rest bad left) :
    ACall Tryz.prog 86 [.ptr br 0] (valueQ br nl rest bad G) G := by
  have hG' : hget G br = some (.vars [.sl (bytesV rest) nl .no, .bool bad, .int .i64 left]) := hG
  refine acall_body (rs := [.cell 2 55]) Tryz.func86 rfl rfl Tryz.ntmps86 (by kernel_rfl) (Nat.le_of_ble_eq_true rfl) ?_
  refine aw_sr rfl ?_  -- r0 @value.go:186
  simp only [go_sem, reduceIte, Nat.reduceEqDiff, Nat.reduceAdd, Nat.reduceMul, Nat.reduceSub, Nat.reduceLeDiff, Nat.reduceLT, reduceCtorEq]
  intro b2 hb2
  have ne2 : ¬ b2 = br := fun e => ne_fresh hG' hb2 e.symm
  refine aw_box1 hb2 fun B1 hs1 h2 => ?_
  have hR1 := hs1 _ _ hG'
  refine aw_sr rfl ?_  -- r1 @value.go:187
  simp only [go_sem, reduceIte, Nat.reduceEqDiff, Nat.reduceAdd, Nat.reduceMul, Nat.reduceSub, Nat.reduceLeDiff, Nat.reduceLT, reduceCtorEq, hR1]
  have hR2 : Rd _ br nl rest bad 400 := hget_hset_self (y := .vars [.sl (bytesV rest) nl .no, .bool bad, .int .i64 400]) hR1
  have h22 := hset_keep (x := .vars [.sl (bytesV rest) nl .no, .bool bad, .int .i64 400]) h2 ne2
  have k2 : KB br G _ := KB.trans (B := B1) (fun b o _ h => hs1 _ _ h) (KB.hset _ _ (.vars [.sl (bytesV rest) nl .no, .bool bad, .int .i64 400]))
  generalize hset B1 br (.vars [.sl (bytesV rest) nl .no, .bool bad, .int .i64 400]) = B2 at hR2 h22 k2 ⊢
  refine aw_sr rfl ?_  -- r2 @value.go:188
  simp only [go_sem, reduceIte, Nat.reduceEqDiff, Nat.reduceAdd, Nat.reduceMul, Nat.reduceSub, Nat.reduceLeDiff, Nat.reduceLT, reduceCtorEq]
  refine goA_by (a_rpart1 br nl 40 1 rfl rest bad 400 B2 hl (by decide) hR2) fun y G1 hy => ?_
  obtain ⟨v, rest', bad', left', hv, rfl, j1, jk, j2, j3, j4, j5, j6⟩ := hy
  have h23 := jk _ _ ne2 h22
  simp only [go_sem, reduceIte, Nat.reduceEqDiff, Nat.reduceAdd, Nat.reduceMul, Nat.reduceSub, Nat.reduceLeDiff, Nat.reduceLT, reduceCtorEq, h23]
  have h24 := hget_hset_self (y := .vars (cV v)) h23
  refine aw_ret ⟨trivial, ?_⟩
  simp only [go_sem, reduceIte, Nat.reduceEqDiff, Nat.reduceAdd, Nat.reduceMul, Nat.reduceSub, Nat.reduceLeDiff, Nat.reduceLT, reduceCtorEq, resL, resOf, h24]
  refine ⟨_, rfl, v, rest', bad', left', hv, rfl, hset_keep j1 (fun e => ne2 e.symm), (k2.trans jk).fresh hb2 _, j2, by omega, ?_⟩
  intro x r h1 h2 h3 h4 h5
  exact j6 x r h1 h2 (by omega) (by omega) h5
end Go.Proofs.YtlgfffngojlffaaGreat

/- The reference's taker: a value. No conditions. -/
set_option linter.unusedSimpArgs false
set_option linter.unusedVariables false
namespace Go.Proofs.YtlgfffngojlffaaGreat
open Go.Proofs.YtlgfffngojlffaaGreatV
set_option maxHeartbeats 400000
set_option maxRecDepth 100000
/-- All but two blocks are as they were. -/
def KB2 (br bl : Nat) (G G' : Heap) : Prop := ∀ b o, ¬ b = br → ¬ b = bl → hget G b = some o → hget G' b = some o
theorem KB.two {br bl : Nat} {G H : Heap} (h : KB br G H) : KB2 br bl G H := fun b o hn _ q => h b o hn q
theorem KB2.trans {br bl : Nat} {A B C : Heap} (h : KB2 br bl A B) (k : KB2 br bl B C) : KB2 br bl A C := fun b o hn hm q => k b o hn hm (h b o hn hm q)
theorem KB2.one {br bl : Nat} {A B C : Heap} (h : KB2 br bl A B) (k : KB br B C) : KB2 br bl A C := h.trans k.two
theorem KB2.sub {br bl : Nat} {A B C : Heap} (h : KB2 br bl A B) (k : Sub B C) : KB2 br bl A C := fun b o hn hm q => k b o (h b o hn hm q)
theorem KB2.hset (br bl : Nat) (G : Heap) (x : AObj) : KB2 br bl G (hset G bl x) := fun b o hn hm h => hset_keep h hm
def off2 (br bl : Nat) (G : Heap) : Heap := off bl (off br G)
theorem hget_off2 (br bl : Nat) (G : Heap) (b : Nat) : hget (off2 br bl G) b = if b = bl then none else if b = br then none else hget G b := by rw [off2, hget_off, hget_off]
theorem KB2.off {br bl : Nat} {G H : Heap} (h : KB2 br bl G H) : Sub (off2 br bl G) H := fun b o hb => by
  rw [hget_off2] at hb
  split at hb
  · cases hb
  · split at hb
    · cases hb
    · exact h b o (by assumption) (by assumption) hb
theorem KB2.on {br bl : Nat} {G H : Heap} (h : Sub (off2 br bl G) H) : KB2 br bl G H := fun b o hn hm hb => h b o (by rw [hget_off2, if_neg hm, if_neg hn]; exact hb)
theorem KB2.fresh {br bl b : Nat} {G H : Heap} (h : KB2 br bl G H) (hb : hget G b = none) (x : AObj) : KB2 br bl G (Go.Proofs.YtlgfffngojlffaaGreatV.hset H b x) :=
  KB2.on (sub_hset_fresh (by
    rw [hget_off2]
    by_cases h1 : b = bl
    · rw [if_pos h1]
    · rw [if_neg h1]
      by_cases h2 : b = br
      · rw [if_pos h2]
      · rw [if_neg h2]; exact hb) h.off)
theorem KB2.none {br bl b : Nat} {G H : Heap} (h : KB2 br bl G H) (hn : ¬ b = br) (hm : ¬ b = bl) (hb : hget H b = none) : hget G b = none := by
  cases e : hget G b with
  | none => rfl
  | some o => have := h _ _ hn hm e; rw [hb] at this; cases this
theorem Rm.kb2 {br bl n : Nat} {G H H' : Heap} {t : Tag} {cs ds : List V} (h : Rm G H n t) (hk : KB2 br bl H H') (hv : hget H br = some (.vars cs)) (hw : hget H bl = some (.vars ds)) : Rm G H' n t := by
  rcases h with h | ⟨b, e, c, h1, h2, h3⟩
  · exact .inl h
  · refine .inr ⟨b, e, c, h1, hk _ _ (fun e => ?_) (fun e => ?_) h2, h3⟩
    · rw [e, hv] at h2; cases h2
    · rw [e, hw] at h2; cases h2
def tvalQ (br bl : Nat) (nl : Bool) (rest : List UInt8) (ok : Bool) (left : Int) (d : Nat) (G : Heap) (y : V) (G' : Heap) : Prop :=
  ∃ (v : Val) (rest' : List UInt8) (ok' : Bool) (left' : Int), Fine v ∧ y = .agg (cV v) ∧ Tk G' br nl rest' ok' ∧ hget G' bl = some (.vars [.int .i64 left']) ∧ KB2 br bl G G' ∧ rest'.length ≤ rest.length ∧ (ok' = true → ok = true ∧ rest'.length < rest.length) ∧ left' = left - v.sz ∧ -1 ≤ left' ∧ (ok' = true → 0 ≤ left') ∧
    ∀ (x : Val) (r : List UInt8), rest = encV x ++ r → Fine x → x.deep ≤ d → x.sz ≤ left → ok = true → v = x ∧ rest' = r ∧ ok' = true
theorem a_tval0 (br bl : Nat) (nl : Bool) (hbb : ¬ bl = br) (d : Nat) (hd : d ≤ 40) (ih : 1 ≤ d → ∀ (rest : List UInt8) (ok : Bool) (left : Int) (G : Heap), rest.length ≤ 1099511627776 → 0 ≤ left ∧ left ≤ 400 → Tk G br nl rest ok → hget G bl = some (.vars [.int .i64 left]) →
    ACall Tryz.prog 97 [.ptr br 0, .ptr bl 0, .int .i64 ((d - 1 : Nat) : Int)] (tvalQ br bl nl rest ok left (d - 1) G) G) (rest : List UInt8) (ok : Bool) (left : Int) (G : Heap) (hl : rest.length ≤ 1099511627776) (hleft : 0 ≤ left ∧ left ≤ 400) (hG : Tk G br nl rest ok) (hL : hget G bl = some (.vars [.int .i64 left])) :
    ACall Tryz.prog 97 [.ptr br 0, .ptr bl 0, .int .i64 (d : Nat)] (tvalQ br bl nl rest ok left d G) G := by
  have hG' : hget G br = some (.vars [.sl (bytesV rest) nl .no, .bool ok]) := hG
  refine ACall.weak ?_
  refine acall_body (rs := [.cell 6 55]) Tryz.func97 rfl rfl Tryz.ntmps97 (by kernel_rfl) (Nat.le_of_ble_eq_true rfl) ?_
  refine aw_sr rfl ?_  -- r0
  simp only [go_sem, reduceIte, Nat.reduceEqDiff, Nat.reduceAdd, Nat.reduceMul, Nat.reduceSub, Nat.reduceLeDiff, Nat.reduceLT, reduceCtorEq]
  intro b6 hb6
  have ne6 : ¬ b6 = br := fun e => ne_fresh hG' hb6 e.symm
  have nel6 : ¬ b6 = bl := fun e => ne_fresh hL hb6 e.symm
  refine aw_box1 hb6 fun B1 hs1 h6 => ?_
  have hR1 := hs1 _ _ hG'
  have hL1 := hs1 _ _ hL
  refine aw_sr rfl ?_  -- r1
  simp only [go_sem, reduceIte, Nat.reduceEqDiff, Nat.reduceAdd, Nat.reduceMul, Nat.reduceSub, Nat.reduceLeDiff, Nat.reduceLT, reduceCtorEq, hL1, wrap64 (show -9223372036854775808 ≤ left - 1 by omega) (show left - 1 ≤ 9223372036854775807 by omega)]
  have hL2 := hget_hset_self (y := .vars [.int .i64 (left - 1)]) hL1
  have hR2 : Tk _ br nl rest ok := hset_keep (x := .vars [.int .i64 (left - 1)]) hR1 (fun e => hbb e.symm)
  have h62 := hset_keep (x := .vars [.int .i64 (left - 1)]) h6 nel6
  have k2 : KB2 br bl G (hset B1 bl (.vars [.int .i64 (left - 1)])) := KB2.trans (B := B1) (fun b o _ _ h => hs1 _ _ h) (KB2.hset _ _ _ _)
  generalize hset B1 bl (.vars [.int .i64 (left - 1)]) = B2 at hR2 hL2 h62 k2 ⊢
  refine aw_mid (fun f' G' => FSub [(0, .ptr br 0), (1, .ptr bl 0), (2, .int .i64 (d : Nat)), (6, .ptr b6 0)] f' ∧ ∃ ok2, Tk G' br nl rest ok2 ∧ (ok2 = true → ok = true ∧ 1 ≤ left ∧ 1 ≤ d) ∧ (ok = true → 1 ≤ left → 1 ≤ d → ok2 = true) ∧ hget G' bl = some (.vars [.int .i64 (left - 1)]) ∧ hget G' b6 = some (.vars [.int .i64 0, .int .i64 0, .str [], .sl [] true .full]) ∧ KB2 br bl G G') ?_ ?_
  · -- 2 ways
    refine aw_sr rfl ?_  -- r2
    simp only [go_sem, reduceIte, Nat.reduceEqDiff, Nat.reduceAdd, Nat.reduceMul, Nat.reduceSub, Nat.reduceLeDiff, Nat.reduceLT, reduceCtorEq, hL2]
    have hR2' : hget B2 br = some (.vars [.sl (bytesV rest) nl .no, .bool ok]) := hR2
    refine aw_if rfl (fun h => ?_) (fun h => ?_)
    · refine aw_rg rfl ?_  -- r3
      simp only [go_sem, reduceIte, Nat.reduceEqDiff, Nat.reduceAdd, Nat.reduceMul, Nat.reduceSub, Nat.reduceLeDiff, Nat.reduceLT, reduceCtorEq, hR2']
      simp only [Bool.or_eq_true, decide_eq_true_eq] at h
      exact ⟨⟨rfl, rfl, rfl, rfl⟩, false, hget_hset_self hR2', fun e => (by cases e), fun _ _ _ => (by omega), hset_keep hL2 hbb, hset_keep h62 ne6, k2.one (KB.hset _ _ _)⟩
    · simp only [Bool.or_eq_false_iff, decide_eq_false_iff_not] at h
      exact aw_skip ⟨⟨rfl, rfl, rfl, rfl⟩, ok, hR2, fun e => ⟨e, by omega, by omega⟩, fun e _ _ => e, hL2, h62, k2⟩
  intro f' B3 ⟨hf, ok2, hR3, hok, hok', hL3, h63, k3⟩
  refine AW.of_fsub hf ?_
  have hR3' : hget B3 br = some (.vars [.sl (bytesV rest) nl .no, .bool ok2]) := hR3
  refine aw_seq fun K1 hK1 => ?_
  refine aw_sr rfl ?_  -- r4
  simp only [go_sem, reduceIte, Nat.reduceEqDiff, Nat.reduceAdd, Nat.reduceMul, Nat.reduceSub, Nat.reduceLeDiff, Nat.reduceLT, reduceCtorEq, hR3']
  refine aw_if rfl (fun h => ?_) (fun h => ?_)
  · refine aw_sr rfl ?_  -- r5
    simp only [go_sem, reduceIte, Nat.reduceEqDiff, Nat.reduceAdd, Nat.reduceMul, Nat.reduceSub, Nat.reduceLeDiff, Nat.reduceLT, reduceCtorEq, h63]
    have hh : ok2 = false := by simpa using h
    have h64 := hget_hset_self (y := .vars [.int .i64 0, .int .i64 0, .str [], .sl [] true .full]) h63
    refine aw_ret ⟨trivial, ?_⟩
    simp only [go_sem, reduceIte, Nat.reduceEqDiff, Nat.reduceAdd, Nat.reduceMul, Nat.reduceSub, Nat.reduceLeDiff, Nat.reduceLT, reduceCtorEq, resL, resOf, h64]
    refine ⟨_, rfl, .agg (cV Val.zero), _, ?_, sub_rfl, Val.zero, rest, ok2, left - 1, Fine.zero, rfl, hset_keep hR3 (fun e => ne6 e.symm), hset_keep hL3 (fun e => nel6 e.symm), k3.fresh hb6 _, Nat.le_refl _, (fun e => by rw [hh] at e; cases e), rfl, by omega, ?_, ?_⟩
    · exact Vle.aggL (.cons (Vle.refl _) (.cons (Vle.refl _) (.cons (Vle.refl _) (.cons Vle.untag .nil))))
    · intro e; rw [hh] at e; cases e
    · intro x r h1 h2 h3 h4 h5
      have hdp := deep_eq x
      have hsz := x.sz_eq
      have := hok' h5 (by omega) (by omega)
      rw [hh] at this; cases this
  have hh : ok2 = true := by simpa using h
  subst hh
  obtain ⟨hokk, hok⟩ := hok rfl
  refine aw_skip (hK1 _ _ ?_)
  refine aw_sr rfl ?_  -- r6
  simp only [go_sem, reduceIte, Nat.reduceEqDiff, Nat.reduceAdd, Nat.reduceMul, Nat.reduceSub, Nat.reduceLeDiff, Nat.reduceLT, reduceCtorEq]
  refine goA_by (a_one br nl rest true B3 hl hR3) fun y G1 hy => ?_
  obtain ⟨c, rest1, bad1, rfl, hR4, k4, hc⟩ := hy
  have hl1 : rest1.length ≤ rest.length := by
    rcases hc with ⟨q1, q2, q3⟩ | ⟨q1, q2⟩
    · rw [q2]; exact Nat.zero_le _
    · rw [q1, List.length_cons]; omega
  have hst1 : bad1 = true → rest1.length < rest.length := fun e => by
    rcases hc with ⟨q1, q2, q3⟩ | ⟨q1, q2⟩
    · rw [q3] at e; cases e
    · rw [q1, List.length_cons]; omega
  simp only [go_sem, reduceIte, Nat.reduceEqDiff, Nat.reduceAdd, Nat.reduceMul, Nat.reduceSub, Nat.reduceLeDiff, Nat.reduceLT, reduceCtorEq]
  intro b5 hb5
  have h64 := k4 _ _ ne6 h63
  have hL4 := k4 _ _ hbb hL3
  have ne5 : ¬ b5 = br := fun e => ne_fresh hR4 hb5 e.symm
  have nel5 : ¬ b5 = bl := fun e => ne_fresh hL4 hb5 e.symm
  have ne56 : ¬ b5 = b6 := fun e => ne_fresh h64 hb5 e.symm
  have hG5 : hget G b5 = none := (k3.one k4).none ne5 nel5 hb5
  refine aw_box1 hb5 fun B5 hs5 h5 => ?_
  have h65 := hs5 _ _ h64
  have hL5 := hs5 _ _ hL4
  have hR5 : Tk B5 br nl rest1 bad1 := hs5 _ _ hR4
  have k5 := (k3.one k4).sub hs5
  refine aw_sr rfl ?_  -- r7
  simp only [go_sem, reduceIte, Nat.reduceEqDiff, Nat.reduceAdd, Nat.reduceMul, Nat.reduceSub, Nat.reduceLeDiff, Nat.reduceLT, reduceCtorEq]
  refine goA_by (a_tnum br nl rest1 bad1 B5 (by omega) hR5) fun y G2 hy => ?_
  obtain ⟨num, rest2, bad2, hnum, rfl, hR6, k6, hl6, ho6, hc6⟩ := hy
  have h56 := k6 _ _ ne5 h5
  simp only [go_sem, reduceIte, Nat.reduceEqDiff, Nat.reduceAdd, Nat.reduceMul, Nat.reduceSub, Nat.reduceLeDiff, Nat.reduceLT, reduceCtorEq, h56]
  have h57 := hget_hset_self (y := .vars [.int .i64 ((c.toNat : Nat) : Int), .int .i64 num, .str [], .sl [] true .full]) h56
  have h67 := hset_keep (x := .vars [.int .i64 ((c.toNat : Nat) : Int), .int .i64 num, .str [], .sl [] true .full]) (k6 _ _ ne6 h65) (fun e => ne56 e.symm)
  have hL7 := hset_keep (x := .vars [.int .i64 ((c.toNat : Nat) : Int), .int .i64 num, .str [], .sl [] true .full]) (k6 _ _ hbb hL5) (fun e => nel5 e.symm)
  have hR7 : Tk _ br nl rest2 bad2 := hset_keep (x := .vars [.int .i64 ((c.toNat : Nat) : Int), .int .i64 num, .str [], .sl [] true .full]) hR6 (fun e => ne5 e.symm)
  have k7 := (k5.one k6).fresh hG5 (.vars [.int .i64 ((c.toNat : Nat) : Int), .int .i64 num, .str [], .sl [] true .full])
  generalize hset G2 b5 (.vars [.int .i64 ((c.toNat : Nat) : Int), .int .i64 num, .str [], .sl [] true .full]) = B7 at h57 h67 hR7 hL7 k7 ⊢
  refine aw_sr rfl ?_  -- r8
  simp only [go_sem, reduceIte, Nat.reduceEqDiff, Nat.reduceAdd, Nat.reduceMul, Nat.reduceSub, Nat.reduceLeDiff, Nat.reduceLT, reduceCtorEq]
  refine goA_by (a_ttext br nl rest2 bad2 B7 (by omega) hR7) fun y G3 hy => ?_
  obtain ⟨txt, rest3, bad3, htxt, rfl, hR8, k8, hl8, ho8, hc8⟩ := hy
  have h58 := k8 _ _ ne5 h57
  simp only [go_sem, reduceIte, Nat.reduceEqDiff, Nat.reduceAdd, Nat.reduceMul, Nat.reduceSub, Nat.reduceLeDiff, Nat.reduceLT, reduceCtorEq, h58]
  have h59 := hget_hset_self (y := .vars [.int .i64 ((c.toNat : Nat) : Int), .int .i64 num, .str txt, .sl [] true .full]) h58
  have h69 := hset_keep (x := .vars [.int .i64 ((c.toNat : Nat) : Int), .int .i64 num, .str txt, .sl [] true .full]) (k8 _ _ ne6 h67) (fun e => ne56 e.symm)
  have hL9 := hset_keep (x := .vars [.int .i64 ((c.toNat : Nat) : Int), .int .i64 num, .str txt, .sl [] true .full]) (k8 _ _ hbb hL7) (fun e => nel5 e.symm)
  have hR9 : Tk _ br nl rest3 bad3 := hset_keep (x := .vars [.int .i64 ((c.toNat : Nat) : Int), .int .i64 num, .str txt, .sl [] true .full]) hR8 (fun e => ne5 e.symm)
  have k9 := (k7.one k8).fresh hG5 (.vars [.int .i64 ((c.toNat : Nat) : Int), .int .i64 num, .str txt, .sl [] true .full])
  generalize hset G3 b5 (.vars [.int .i64 ((c.toNat : Nat) : Int), .int .i64 num, .str txt, .sl [] true .full]) = B9 at h59 h69 hR9 hL9 k9 ⊢
  refine aw_seq fun K2 hK2 => ?_
  refine aw_sr rfl ?_  -- r9
  simp only [go_sem, reduceIte, Nat.reduceEqDiff, Nat.reduceAdd, Nat.reduceMul, Nat.reduceSub, Nat.reduceLeDiff, Nat.reduceLT, reduceCtorEq]
  refine goA_by (a_tnat br nl rest3 bad3 B9 (by omega) hR9) fun y G4 hy => ?_
  obtain ⟨m0, rest4, bad4, hm0, rfl, hR10, k10, hl10, ho10, hc10⟩ := hy
  simp only [go_sem, reduceIte, Nat.reduceEqDiff, Nat.reduceAdd, Nat.reduceMul, Nat.reduceSub, Nat.reduceLeDiff, Nat.reduceLT, reduceCtorEq]
  refine aw_block ?_  -- 0
  refine aw_lph (S := {s : List Val × Nat × Tag × List UInt8 × Bool × Heap // (∀ a ∈ s.1, Fine a) ∧ s.2.1 < 9223372036854775808 ∧ -1 ≤ left - 1 - szs s.1 ∧ (s.2.2.2.2.1 = true → 0 ≤ left - 1 - szs s.1) ∧ Tk s.2.2.2.2.2 br nl s.2.2.2.1 s.2.2.2.2.1 ∧ hget s.2.2.2.2.2 bl = some (.vars [.int .i64 (left - 1 - szs s.1)]) ∧
      hget s.2.2.2.2.2 b5 = some (.vars [.int .i64 ((c.toNat : Nat) : Int), .int .i64 num, .str txt, .sl (s.1.map eVal) s.1.isEmpty s.2.2.1]) ∧ Rm (off2 br bl G) s.2.2.2.2.2 4 s.2.2.1 ∧
      hget s.2.2.2.2.2 b6 = some (.vars [.int .i64 0, .int .i64 0, .str [], .sl [] true .full]) ∧ KB2 br bl G s.2.2.2.2.2 ∧ s.2.2.2.1.length ≤ rest.length ∧ (s.2.2.2.2.1 = true → s.2.2.2.1.length < rest.length) ∧
      ∀ (x : Val) (r : List UInt8), rest = encV x ++ r → Fine x → x.deep ≤ d → x.sz ≤ left → ok = true → s.2.2.2.2.1 = true ∧ (c.toNat : Int) = x.kind ∧ num = x.num ∧ txt = x.text ∧ s.1 = x.args.take s.1.length ∧ s.1.length + s.2.1 = x.args.length ∧ s.2.2.2.1 = encVs (x.args.drop s.1.length) ++ r})
    (fun s => [(0, .ptr br 0), (1, .ptr bl 0), (2, .int .i64 (d : Nat)), (6, .ptr b6 0), (7, .ptr b5 0), (8, .int .i64 ((s.1.2.1 : Nat) : Int))]) (fun s => s.1.2.2.2.2.2) (fun s => s.1.2.1)
    ⟨([], m0, .full, rest4, bad4, G4), by simp, hm0, by simp [szs]; omega, by simp [szs]; omega, hR10, by simpa [szs] using k10 _ _ hbb hL9, k10 _ _ ne5 h59, Rm.start _ _ _, k10 _ _ ne6 h69, k9.one k10, by show rest4.length ≤ _; omega, fun e => by have h1 := ho10 e; have h2 := ho8 h1.1; have h3 := ho6 h2.1; have h4 := hst1 h3.1; show rest4.length < _; omega, ?_⟩ ?_ (fun _ _ h => h) ?_
  · intro x r h1 h2 h3 h4 h5
    rw [encV_eq, List.cons_append, List.append_assoc, List.append_assoc, List.append_assoc] at h1
    rcases hc with ⟨q1, q2, q3⟩ | ⟨q1, q2⟩
    · rw [q1] at h1; cases h1
    rw [q1] at h1
    obtain ⟨g1, g2⟩ := List.cons.inj h1
    obtain ⟨e1, e2, e3⟩ := hc6 _ _ g2 h2.num q2
    obtain ⟨e4, e5, e6⟩ := hc8 _ _ e2 h2.text e3
    obtain ⟨e7, e8, e9⟩ := hc10 _ _ e5 (by have := h2.len; omega) e6
    refine ⟨e9, by rw [g1]; exact u8_nat h2.kind, e1, e4, rfl, ?_, ?_⟩
    · show 0 + m0 = _; omega
    · exact e8
  · simp only [go_sem, reduceIte, Nat.reduceEqDiff, Nat.reduceAdd, Nat.reduceMul, Nat.reduceSub, Nat.reduceLeDiff, Nat.reduceLT, reduceCtorEq]
  intro ⟨⟨as_, m, t, rs, bd, H⟩, i1, i2, i3, i4, i5, iL, i6, i7, i8, i9, i10, i12, i11⟩
  simp only at i1 i2 i3 i4 i5 iL i6 i7 i8 i9 i10 i12 i11 ⊢
  have i5' : hget H br = some (.vars [.sl (bytesV rs) nl .no, .bool bd]) := i5
  have hlas := szs_len as_
  refine aw_seq fun K3 hK3 => ?_
  refine aw_sr rfl ?_  -- r10
  simp only [go_sem, reduceIte, Nat.reduceEqDiff, Nat.reduceAdd, Nat.reduceMul, Nat.reduceSub, Nat.reduceLeDiff, Nat.reduceLT, reduceCtorEq, i5']
  refine aw_if rfl (fun h => ?_) (fun h => ?_)
  · have hmb : 0 < m ∧ bd = true := by
      rw [Bool.and_eq_true] at h
      obtain ⟨q1, q2⟩ := h
      rw [decide_eq_true_eq] at q1
      exact ⟨by omega, by simpa using q2⟩
    obtain ⟨hm, rfl⟩ := hmb
    have i4 := i4 rfl
    refine aw_skip (hK3 _ _ ?_)
    refine aw_seq fun K4 hK4 => ?_
    refine aw_block ?_  -- 1
    refine aw_rgf [(0,true),(2,true),(3,true),(4,true),(5,true)] 1 6 [(6,false),(7,true),(8,false),(9,true),(10,false)] [(7,true),(1,false),(8,false),(9,true),(10,false)] mixed rfl (by kernel_rfl) ?_  -- r12
    have hwd : IntKind.i64.wrap ((d : Int) - 1) = ((d - 1 : Nat) : Int) := by rw [wrap64 (by omega) (by omega)]; omega
    simp only [go_sem, reduceIte, Nat.reduceEqDiff, Nat.reduceAdd, Nat.reduceMul, Nat.reduceSub, Nat.reduceLeDiff, Nat.reduceLT, reduceCtorEq, i6, hwd]
    refine ⟨?_, ?_⟩
    all_goals
      refine goA_by (ih hok.2 rs true (left - 1 - szs as_) H (by omega) (by omega) i5 iL) fun y G1 hy => ?_
      obtain ⟨v, rs', bd', left', hv, rfl, j1, jL, jk, j2, j7, j3, j4, j5, j6⟩ := hy
      have k6 := jk _ _ ne5 nel5 i6
      have k8 := jk _ _ ne6 nel6 i8
      have kr := Rm.kb2 i7 jk i5' iL
      have happ : as_.map eVal ++ [[.int .i64 v.kind, .int .i64 v.num, .str v.text, .sl (v.args.map eVal) v.nl .no]] = (as_ ++ [v]).map eVal := by rw [List.map_append, List.map_cons, List.map_nil, eC]
      have hz : left - 1 - szs (as_ ++ [v]) = left' := by rw [szs_append]; simp only [szs]; omega
      simp only [go_sem, reduceIte, Nat.reduceEqDiff, Nat.reduceAdd, Nat.reduceMul, Nat.reduceSub, Nat.reduceLeDiff, Nat.reduceLT, reduceCtorEq, k6]
      refine goP_rm kr (i9.trans jk).off ?_ fun t1 H1 hr1 hs1 hg1 => ?_
      · exact ⟨rfl, rfl, by decide, wid_map (g := eVal) (fun _ => by simp [eC, cV]) _, wid_one rfl, sca_one rfl, by simp; omega, by simp; omega⟩
      simp only [go_sem, reduceIte, Nat.reduceEqDiff, Nat.reduceAdd, Nat.reduceMul, Nat.reduceSub, Nat.reduceLeDiff, Nat.reduceLT, reduceCtorEq, hg1.vars k6, happ, Bool.and_false]
      have hne : (as_ ++ [v]).isEmpty = false := by cases as_ <;> rfl
      refine hK4 _ _ ?_
      refine aw_rg rfl ?_  -- r11
      simp only [go_sem, reduceIte, Nat.reduceEqDiff, Nat.reduceAdd, Nat.reduceMul, Nat.reduceSub, Nat.reduceLeDiff, Nat.reduceLT, reduceCtorEq]
      refine ⟨⟨(as_ ++ [v], m - 1, t1, rs', bd', _), ?_, ?_, ?_, ?_, ?_, ?_, ?_, hr1.hset (hg1.vars k6) (fun _ _ e => by cases e), hset_keep (hg1.vars k8) (fun e => ne56 e.symm), (KB2.on hs1).fresh hG5 _, Nat.le_trans j2 i10, fun e => Nat.lt_of_lt_of_le (j7 e).2 i10, ?_⟩, ?_, ⟨rfl, rfl, rfl, rfl, rfl, ?_⟩, sub_rfl⟩
      · intro a ha
        rcases List.mem_append.1 ha with ha | ha
        · exact i1 a ha
        · rw [List.mem_singleton.1 ha]; exact hv
      · show m - 1 < 9223372036854775808
        omega
      · show -1 ≤ left - 1 - szs (as_ ++ [v])
        rw [hz]; exact j4
      · show bd' = true → 0 ≤ left - 1 - szs (as_ ++ [v])
        rw [hz]; exact j5
      · show Tk _ br nl rs' bd'
        exact hset_keep (hg1.vars j1) (fun e => ne5 e.symm)
      · show hget _ bl = some (.vars [.int .i64 (left - 1 - szs (as_ ++ [v]))])
        rw [hz]; exact hset_keep (hg1.vars jL) (fun e => nel5 e.symm)
      · show hget _ b5 = some (.vars [.int .i64 ((c.toNat : Nat) : Int), .int .i64 num, .str txt, .sl ((as_ ++ [v]).map eVal) (as_ ++ [v]).isEmpty t1])
        rw [hne]; exact hget_hset_self (hg1.vars k6)
      · intro x r h1 h2 h3 h4 h5
        obtain ⟨p1, p2, p3, p4, p5, p6, p7⟩ := i11 x r h1 h2 h3 h4 h5
        have hk : as_.length < x.args.length := by omega
        have hdrop : x.args.drop as_.length = x.args[as_.length] :: x.args.drop (as_.length + 1) := List.drop_eq_getElem_cons hk
        have hmem := List.getElem_mem hk
        have hsz := x.sz_eq
        have hsp := szs_append (x.args.take as_.length) (x.args.drop as_.length)
        rw [List.take_append_drop, ← p5, hdrop, szs] at hsp
        have hdp := deep_eq x
        have hdm := deeps_mem2 hmem
        rw [hdrop, encVs, List.append_assoc] at p7
        obtain ⟨q1, q2, q3⟩ := j6 _ _ p7 (h2.arg hmem) (by omega) (by omega) rfl
        refine ⟨q3, p2, p3, p4, ?_, ?_, ?_⟩
        · show as_ ++ [v] = x.args.take (as_ ++ [v]).length
          rw [List.length_append, List.length_singleton, List.take_succ_eq_append_getElem hk, ← p5, q1]
        · show (as_ ++ [v]).length + (m - 1) = x.args.length
          rw [List.length_append, List.length_singleton]; omega
        · show rs' = encVs (x.args.drop (as_ ++ [v]).length) ++ r
          rw [List.length_append, List.length_singleton]; exact q2
      · show m - 1 < m; omega
      · show some (V.int .i64 (IntKind.i64.wrap ((m : Int) - 1))) = some (V.int .i64 ((m - 1 : Nat) : Int))
        rw [wrap64 (by omega) (by omega)]; congr 2; omega
  · refine aw_exit ?_  -- 0
    refine hK2 _ _ ?_
    refine aw_sr rfl ?_  -- r13
    simp only [go_sem, reduceIte, Nat.reduceEqDiff, Nat.reduceAdd, Nat.reduceMul, Nat.reduceSub, Nat.reduceLeDiff, Nat.reduceLT, reduceCtorEq, i6, i8]
    have h44 := hget_hset_self (y := .vars [.int .i64 ((c.toNat : Nat) : Int), .int .i64 num, .str txt, .sl (as_.map eVal) as_.isEmpty t]) i8
    refine aw_ret ⟨trivial, ?_⟩
    simp only [go_sem, reduceIte, Nat.reduceEqDiff, Nat.reduceAdd, Nat.reduceMul, Nat.reduceSub, Nat.reduceLeDiff, Nat.reduceLT, reduceCtorEq, resL, resOf, h44]
    have hcl := c.toNat_lt
    refine ⟨_, rfl, .agg (cV (.mk c.toNat num txt as_ as_.isEmpty)), _, ?_, sub_rfl, .mk c.toNat num txt as_ as_.isEmpty, rs, bd, left - 1 - szs as_, .mk (by omega) hnum htxt (by omega) i1, rfl, hset_keep i5 (fun e => ne6 e.symm), hset_keep iL (fun e => nel6 e.symm), i9.fresh hb6 _, i10, fun e => ⟨hokk, i12 e⟩, by simp only [Val.sz]; omega, i3, i4, ?_⟩
    · exact Vle.aggL (.cons (Vle.refl _) (.cons (Vle.refl _) (.cons (Vle.refl _) (.cons Vle.untag .nil))))
    · intro x r h1 h2 h3 h4 h5
      obtain ⟨p1, p2, p3, p4, p5, p6, p7⟩ := i11 x r h1 h2 h3 h4 h5
      have hm0 : m = 0 := by
        rw [p1] at h
        by_cases hlt : (0 : Int) < (m : Int)
        · rw [decide_eq_true hlt] at h; exact absurd h (by decide)
        · omega
      have hlen : as_.length = x.args.length := by omega
      rw [hlen, List.take_length] at p5
      rw [hlen, List.drop_length, encVs, List.nil_append] at p7
      refine ⟨?_, p7, p1⟩
      rw [h2.eq, p2, p3, p4, p5]
theorem a_tval1 (br bl : Nat) (nl : Bool) (hbb : ¬ bl = br) : ∀ (d : Nat), d ≤ 40 → ∀ (rest : List UInt8) (ok : Bool) (left : Int) (G : Heap), rest.length ≤ 1099511627776 → 0 ≤ left ∧ left ≤ 400 → Tk G br nl rest ok → hget G bl = some (.vars [.int .i64 left]) →
    ACall Tryz.prog 97 [.ptr br 0, .ptr bl 0, .int .i64 (d : Nat)] (tvalQ br bl nl rest ok left d G) G
  | 0, hd => fun rest ok left G h1 h2 h3 h4 => a_tval0 br bl nl hbb 0 hd (fun h => by omega) rest ok left G h1 h2 h3 h4
  | d + 1, hd => fun rest ok left G h1 h2 h3 h4 => a_tval0 br bl nl hbb (d + 1) hd (fun _ => a_tval1 br bl nl hbb d (by omega)) rest ok left G h1 h2 h3 h4
def wholeQ (br : Nat) (nl : Bool) (rest : List UInt8) (ok : Bool) (G : Heap) (y : V) (G' : Heap) : Prop :=
  ∃ (v : Val) (rest' : List UInt8) (ok' : Bool), Fine v ∧ y = .agg (cV v) ∧ Tk G' br nl rest' ok' ∧ KB br G G' ∧ v.sz ≤ 401 ∧ rest'.length ≤ rest.length ∧ (ok' = true → ok = true ∧ rest'.length < rest.length) ∧
    ∀ (x : Val) (r : List UInt8), rest = encV x ++ r → Fine x → x.deep ≤ 40 → x.sz ≤ 400 → ok = true → v = x ∧ rest' = r ∧ ok' = true
theorem a_whole (br : Nat) (nl : Bool) (rest : List UInt8) (ok : Bool) (G : Heap) (hl : rest.length ≤ 1099511627776) (hG : Tk G br nl rest ok) :
    ACall Tryz.prog 89 [.ptr br 0] (wholeQ br nl rest ok G) G := by
  have hG' : hget G br = some (.vars [.sl (bytesV rest) nl .no, .bool ok]) := hG
  refine acall_body (rs := [.cell 2 55]) Tryz.func89 rfl rfl Tryz.ntmps89 (by kernel_rfl) (Nat.le_of_ble_eq_true rfl) ?_
  refine aw_sr rfl ?_  -- r0
  simp only [go_sem, reduceIte, Nat.reduceEqDiff, Nat.reduceAdd, Nat.reduceMul, Nat.reduceSub, Nat.reduceLeDiff, Nat.reduceLT, reduceCtorEq]
  intro b2 hb2
  have ne2 : ¬ b2 = br := fun e => ne_fresh hG' hb2 e.symm
  refine aw_box1 hb2 fun B1 hs1 h2 => ?_
  refine aw_sr rfl ?_  -- r1
  simp only [go_sem, reduceIte, Nat.reduceEqDiff, Nat.reduceAdd, Nat.reduceMul, Nat.reduceSub, Nat.reduceLeDiff, Nat.reduceLT, reduceCtorEq]
  intro bl hbl
  have nel : ¬ bl = br := fun e => ne_fresh (hs1 _ _ hG') hbl e.symm
  have ne2l : ¬ b2 = bl := fun e => ne_fresh h2 hbl e
  have hGl : hget G bl = none := by
    cases e : hget G bl with
    | none => rfl
    | some o => have := hs1 _ _ e; rw [hbl] at this; cases this
  refine aw_box1 hbl fun B2 hs2 hL => ?_
  have hR2 : Tk B2 br nl rest ok := hs2 _ _ (hs1 _ _ hG')
  replace h2 := hs2 _ _ h2
  refine aw_sr rfl ?_  -- r2
  simp only [go_sem, reduceIte, Nat.reduceEqDiff, Nat.reduceAdd, Nat.reduceMul, Nat.reduceSub, Nat.reduceLeDiff, Nat.reduceLT, reduceCtorEq]
  refine goA_by (a_tval1 br bl nl nel 40 (Nat.le_refl _) rest ok 400 B2 hl (by decide) hR2 hL) fun y G1 hy => ?_
  obtain ⟨v, rest', ok', left', hv, rfl, j1, jL, jk, j2, j7, j3, j4, j5, j6⟩ := hy
  have h23 := jk _ _ ne2 ne2l h2
  have hkb : KB br G G1 := fun x o hn hx => jk _ _ hn (fun e => by rw [e, hGl] at hx; cases hx) (hs2 _ _ (hs1 _ _ hx))
  simp only [go_sem, reduceIte, Nat.reduceEqDiff, Nat.reduceAdd, Nat.reduceMul, Nat.reduceSub, Nat.reduceLeDiff, Nat.reduceLT, reduceCtorEq, h23]
  have h24 := hget_hset_self (y := .vars (cV v)) h23
  refine aw_ret ⟨trivial, ?_⟩
  simp only [go_sem, reduceIte, Nat.reduceEqDiff, Nat.reduceAdd, Nat.reduceMul, Nat.reduceSub, Nat.reduceLeDiff, Nat.reduceLT, reduceCtorEq, resL, resOf, h24]
  refine ⟨_, rfl, v, rest', ok', hv, rfl, hset_keep j1 (fun e => ne2 e.symm), hkb.fresh hb2 _, by omega, j2, j7, ?_⟩
  intro x r h1 h2 h3 h4 h5
  exact j6 x r h1 h2 h3 (by omega) h5
end Go.Proofs.YtlgfffngojlffaaGreat

/- Read: what is read of bytes is what they were written for; other bytes are none of a value's. No conditions. -/
set_option linter.unusedSimpArgs false
set_option linter.unusedVariables false
namespace Go.Proofs.YtlgfffngojlffaaGreat
open Go.Proofs.YtlgfffngojlffaaGreatV
set_option maxHeartbeats 400000
set_option maxRecDepth 100000
theorem q_bytesEqual (a b : List UInt8) (n1 n2 : Bool) (t1 t2 : Tag) : Quiet Tryz.prog 32 [.sl (bytesV a) n1 t1, .sl (bytesV b) n2 t2] (.bool (decide (a = b))) := by
  intro G
  refine acall_body (rs := [.tmp 4]) Tryz.func32 rfl rfl Tryz.ntmps32 (by kernel_rfl) (Nat.le_of_ble_eq_true rfl) ?_
  refine aw_sr rfl ?_
  simp only [go_sem, reduceIte, Nat.reduceEqDiff, Nat.reduceAdd, Nat.reduceMul, Nat.reduceSub, Nat.reduceLeDiff, Nat.reduceLT, reduceCtorEq]
  refine aw_sr rfl ?_
  simp only [go_sem, reduceIte, Nat.reduceEqDiff, Nat.reduceAdd, Nat.reduceMul, Nat.reduceSub, Nat.reduceLeDiff, Nat.reduceLT, reduceCtorEq]
  exact aw_ret ⟨trivial, _, rfl, rfl, rfl⟩
theorem a_rdone (br : Nat) (nl : Bool) (rest : List UInt8) (bad : Bool) (left : Int) (b again : List UInt8) (n1 n2 : Bool) (e : Int) (G : Heap) (hG : Rd G br nl rest bad left) :
    ACall Tryz.prog 59 [.ptr br 0, .sl (bytesV b) n1 .no, .sl (bytesV again) n2 .no, .int .i64 e] (fun y G' => y = .bool (decide (bad = false ∧ rest = [] ∧ e = 0 ∧ b = again)) ∧ G' = G) G := by
  have hG' : hget G br = some (.vars [.sl (bytesV rest) nl .no, .bool bad, .int .i64 left]) := hG
  refine acall_body (rs := [.tmp 8]) Tryz.func59 rfl rfl Tryz.ntmps59 (by kernel_rfl) (Nat.le_of_ble_eq_true rfl) ?_
  refine aw_sr rfl ?_  -- r0 @value.go:192
  simp only [go_sem, reduceIte, Nat.reduceEqDiff, Nat.reduceAdd, Nat.reduceMul, Nat.reduceSub, Nat.reduceLeDiff, Nat.reduceLT, reduceCtorEq]
  refine aw_sr rfl ?_  -- r1 @value.go:193
  simp only [go_sem, reduceIte, Nat.reduceEqDiff, Nat.reduceAdd, Nat.reduceMul, Nat.reduceSub, Nat.reduceLeDiff, Nat.reduceLT, reduceCtorEq, hG']
  refine goH_q (fun hg => q_bytesEqual _ _ _ _ _ _) ?_
  simp only [go_sem, reduceIte, Nat.reduceEqDiff, Nat.reduceAdd, Nat.reduceMul, Nat.reduceSub, Nat.reduceLeDiff, Nat.reduceLT, reduceCtorEq]
  refine aw_ret ⟨trivial, _, rfl, ?_, rfl⟩
  show V.bool _ = V.bool _
  congr 1
  have hr : decide (((rest.length : Nat) : Int) = 0) = decide (rest = []) := by
    cases rest with
    | nil => rfl
    | cons x l => rw [decide_eq_false (p := (((x :: l).length : Nat) : Int) = 0) (by rw [List.length_cons]; omega), decide_eq_false (p := x :: l = []) (by simp)]
  rw [hr]
  by_cases h1 : bad = false <;> by_cases h2 : rest = [] <;> by_cases h3 : e = 0 <;> by_cases h4 : b = again <;> simp [h1, h2, h3, h4]
/-- A value that may be written. -/
def Good (x : Val) : Prop := Fine x ∧ checkV x = 0
theorem Good.small {x : Val} (h : Good x) : x.sz ≤ 400 ∧ x.deep ≤ 40 := by
  have := check_small h.2
  exact ⟨this.1, this.2.1⟩
theorem Fine.obulk {v : Val} (h : Fine v) (hs : v.sz ≤ 401) : oVal v := ⟨h.ok, Nat.le_trans hs (by decide)⟩
open Classical in
/-- What is read of bytes. -/
noncomputable def readF (b : List UInt8) : Val × Int := if h : ∃ x, Good x ∧ encV x = b then (h.choose, 0) else (Val.zero, 3)
abbrev pairV (p : Val × Int) : V := .tup [.agg (cV p.1), .int .i64 p.2]
theorem readF_no {b : List UInt8} (h : ∀ x, Good x → ¬ encV x = b) : readF b = (Val.zero, 3) := by
  unfold readF; rw [dif_neg]; exact fun ⟨x, h1, h2⟩ => h x h1 h2
theorem readF_yes {b : List UInt8} {v : Val} (h1 : Good v) (h2 : encV v = b) (h : ∀ x, Good x → encV x = b → v = x) : readF b = (v, 0) := by
  unfold readF
  have he : ∃ x, Good x ∧ encV x = b := ⟨v, h1, h2⟩
  rw [dif_pos he, ← h _ he.choose_spec.1 he.choose_spec.2]
end Go.Proofs.YtlgfffngojlffaaGreat

set_option linter.unusedSimpArgs false
set_option linter.unusedVariables false
namespace Go.Proofs.YtlgfffngojlffaaGreat
open Go.Proofs.YtlgfffngojlffaaGreatV
set_option maxHeartbeats 400000
set_option maxRecDepth 100000
theorem byte128 {n : Nat} (h : n < 2 ^ 64) : IntKind.u8.wrap (IntKind.u64.wrap ((n : Int).tmod 128 + 128)) = (((UInt8.ofNat (n % 128 + 128)).toNat : Nat) : Int) := by
  have e : (n : Int).tmod 128 = ((n % 128 : Nat) : Int) := by rw [Int.tmod_eq_emod_of_nonneg (by omega)]; omega
  rw [e, wrap_u64, wrap_u8, UInt8.toNat_ofNat']
  omega
theorem quo128 {n : Nat} (h : n < 2 ^ 64) : IntKind.u64.wrap ((n : Int).tdiv 128) = ((n / 128 : Nat) : Int) := by
  have e : (n : Int).tdiv 128 = ((n / 128 : Nat) : Int) := by rw [Int.tdiv_eq_ediv_of_nonneg (by omega)]; omega
  rw [e, wrap_u64]
  omega
theorem q_refnat (n : Nat) (hn : n < 2 ^ 64) : Quiet Tryz.prog 49 [.int .u64 n] (.str (natB n)) := by
  refine Quiet.weak fun G => ?_
  refine acall_body (rs := [.tmp 2]) Tryz.func49 rfl rfl Tryz.ntmps49 (by kernel_rfl) (Nat.le_of_ble_eq_true rfl) ?_
  refine aw_sr rfl ?_
  simp only [go_sem, reduceIte, Nat.reduceEqDiff, Nat.reduceAdd, Nat.reduceMul, Nat.reduceSub, Nat.reduceLeDiff, Nat.reduceLT, reduceCtorEq]
  refine aw_sr rfl ?_
  simp only [go_sem, reduceIte, Nat.reduceEqDiff, Nat.reduceAdd, Nat.reduceMul, Nat.reduceSub, Nat.reduceLeDiff, Nat.reduceLT, reduceCtorEq]
  refine aw_seq fun K2 hK2 => ?_
  refine aw_block ?_
  have h10 := natB_len64 hn
  refine aw_lph (S := {s : List UInt8 × Nat // s.1 ++ natB s.2 = natB n ∧ s.2 < 2 ^ 64}) (fun s => [(3, .str s.1.1), (0, .int .u64 s.1.2)]) (fun _ => G) (fun s => s.1.2) ⟨([], n), rfl, hn⟩ ?_ (fun _ _ h => h) ?_
  · simp only [go_sem, reduceIte, Nat.reduceEqDiff, Nat.reduceAdd, Nat.reduceMul, Nat.reduceSub, Nat.reduceLeDiff, Nat.reduceLT, reduceCtorEq]
  intro ⟨⟨o, k⟩, i1, i2⟩
  simp only at i1 i2 ⊢
  have hlo := congrArg List.length i1
  rw [List.length_append] at hlo
  refine aw_seq fun K3 hK3 => ?_
  refine aw_sr rfl ?_
  simp only [go_sem, reduceIte, Nat.reduceEqDiff, Nat.reduceAdd, Nat.reduceMul, Nat.reduceSub, Nat.reduceLeDiff, Nat.reduceLT, reduceCtorEq]
  refine aw_if rfl (fun h => ?_) (fun h => ?_)
  · have hk : ¬ k < 128 := by
      have : (127 : Int) < (k : Int) := by simpa using h
      omega
    refine aw_skip (hK3 _ _ ?_)
    refine aw_block ?_
    refine aw_sr rfl ?_
    simp only [go_sem, reduceIte, Nat.reduceEqDiff, Nat.reduceAdd, Nat.reduceMul, Nat.reduceSub, Nat.reduceLeDiff, Nat.reduceLT, reduceCtorEq, byte128 i2]
    refine ⟨by decide, by simp; omega, ?_⟩
    refine aw_rg rfl ?_
    simp only [go_sem, reduceIte, Nat.reduceEqDiff, Nat.reduceAdd, Nat.reduceMul, Nat.reduceSub, Nat.reduceLeDiff, Nat.reduceLT, reduceCtorEq, quo128 i2]
    refine ⟨by decide, ⟨⟨(o ++ [UInt8.ofNat (k % 128 + 128)], k / 128), ?_, ?_⟩, ?_, ?_, fun _ _ h => h⟩⟩
    · rw [← i1, natB_big hk]; simp
    · show k / 128 < 2 ^ 64; omega
    · show k / 128 < k; omega
    · simp only [go_sem, reduceIte, Nat.reduceEqDiff, Nat.reduceAdd, Nat.reduceMul, Nat.reduceSub, Nat.reduceLeDiff, Nat.reduceLT, reduceCtorEq]
  · have hk : k < 128 := by
      have : (k : Int) ≤ 127 := by simpa using h
      omega
    refine aw_exit ?_
    refine hK2 _ _ ?_
    refine aw_sr rfl ?_
    simp only [go_sem, reduceIte, Nat.reduceEqDiff, Nat.reduceAdd, Nat.reduceMul, Nat.reduceSub, Nat.reduceLeDiff, Nat.reduceLT, reduceCtorEq, byte_small hk]
    refine ⟨by simp; omega, ?_⟩
    refine aw_ret ⟨trivial, _, rfl, ?_, fun _ _ h => h⟩
    rw [← i1, natB_small hk]
    exact Vle.refl _
theorem q_refnum (n : Int) (hn : IntKind.i64.min ≤ n ∧ n ≤ IntKind.i64.max) : Quiet Tryz.prog 51 [.int .i64 n] (.str (natB (numN n))) := by
  have hr := i64_range hn
  have hlt := numN_lt hn
  intro G
  refine acall_body (rs := [.tmp 2]) Tryz.func51 rfl rfl Tryz.ntmps51 (by kernel_rfl) (Nat.le_of_ble_eq_true rfl) ?_
  refine aw_sr rfl ?_
  simp only [go_sem, reduceIte, Nat.reduceEqDiff, Nat.reduceAdd, Nat.reduceMul, Nat.reduceSub, Nat.reduceLeDiff, Nat.reduceLT, reduceCtorEq]
  refine aw_seq fun K1 hK1 => ?_
  refine aw_sr rfl ?_
  simp only [go_sem, reduceIte, Nat.reduceEqDiff, Nat.reduceAdd, Nat.reduceMul, Nat.reduceSub, Nat.reduceLeDiff, Nat.reduceLT, reduceCtorEq]
  refine aw_if rfl (fun h => ?_) (fun h => ?_)
  · have h : n < 0 := by simpa using h
    have e : IntKind.u64.wrap (IntKind.u64.wrap (2 * IntKind.u64.wrap (IntKind.i64.wrap (0 - IntKind.i64.wrap (n + 1)))) + 1) = ((numN n : Nat) : Int) := by
      rw [wrap64 (n := n + 1) (by omega) (by omega), wrap64 (by omega) (by omega), wrap_u64, wrap_u64, wrap_u64, numN, if_neg (by omega)]
      omega
    refine aw_sr rfl ?_
    simp only [go_sem, reduceIte, Nat.reduceEqDiff, Nat.reduceAdd, Nat.reduceMul, Nat.reduceSub, Nat.reduceLeDiff, Nat.reduceLT, reduceCtorEq, e]
    refine goA_q (q_refnat (numN n) hlt) ?_
    simp only [go_sem, reduceIte, Nat.reduceEqDiff, Nat.reduceAdd, Nat.reduceMul, Nat.reduceSub, Nat.reduceLeDiff, Nat.reduceLT, reduceCtorEq]
    exact aw_ret ⟨trivial, _, rfl, rfl, rfl⟩
  · have h : ¬ n < 0 := by simpa using h
    have e : IntKind.u64.wrap (2 * IntKind.u64.wrap n) = ((numN n : Nat) : Int) := by
      rw [wrap_u64, wrap_u64, numN, if_pos (by omega)]
      omega
    refine aw_skip (hK1 _ _ ?_)
    refine aw_sr rfl ?_
    simp only [go_sem, reduceIte, Nat.reduceEqDiff, Nat.reduceAdd, Nat.reduceMul, Nat.reduceSub, Nat.reduceLeDiff, Nat.reduceLT, reduceCtorEq, e]
    refine goA_q (q_refnat (numN n) hlt) ?_
    simp only [go_sem, reduceIte, Nat.reduceEqDiff, Nat.reduceAdd, Nat.reduceMul, Nat.reduceSub, Nat.reduceLeDiff, Nat.reduceLT, reduceCtorEq]
    exact aw_ret ⟨trivial, _, rfl, rfl, rfl⟩
theorem q_valueText0 : ∀ (n : Nat) (v : Val), v.sz ≤ n → OkVal v → (encV v).length ≤ 1099511627776 → Quiet Tryz.prog 52 [.agg (cV v)] (.str (encV v)) := by
  intro n
  induction n with
  | zero => intro v h; have := v.sz_eq; omega
  | succ n ih =>
    intro v hsz ho hl
    have hle := encV_eq v
    have hl' : 1 + ((natB (numN v.num)).length + ((natB v.text.length).length + v.text.length + ((natB v.args.length).length + (encVs v.args).length))) ≤ 1099511627776 := by
      rw [hle] at hl
      simp only [List.length_append, List.length_cons, textB] at hl
      omega
    have htx : v.text.length ≤ 1048576 := ho.text
    have hll : v.args.length ≤ 1048576 := ho.len
    refine Quiet.weak fun G => ?_
    refine acall_body (rs := [.tmp 2]) Tryz.func52 rfl rfl Tryz.ntmps52 (by kernel_rfl) (Nat.le_of_ble_eq_true rfl) ?_
    refine aw_sr rfl ?_
    simp only [go_sem, reduceIte, Nat.reduceEqDiff, Nat.reduceAdd, Nat.reduceMul, Nat.reduceSub, Nat.reduceLeDiff, Nat.reduceLT, reduceCtorEq]
    intro b1 hb1
    refine aw_srd [(0,true),(1,true),(2,true),(3,true),(4,true),(5,true),(6,true),(7,true),(8,true),(9,true),(10,true),(11,true),(12,true),(13,true),(14,true),(15,true),(16,true),(17,true),(18,true),(19,true),(20,true),(21,true),(22,true),(23,true),(24,true)] mixed rfl (by kernel_rfl) ?_
    simp only [go_sem, reduceIte, Nat.reduceEqDiff, Nat.reduceAdd, Nat.reduceMul, Nat.reduceSub, Nat.reduceLeDiff, Nat.reduceLT, reduceCtorEq, one_u8]
    refine goQ_by (q_refnum v.num ho.num) ?_
    simp only [go_sem, reduceIte, Nat.reduceEqDiff, Nat.reduceAdd, Nat.reduceMul, Nat.reduceSub, Nat.reduceLeDiff, Nat.reduceLT, reduceCtorEq, wrapN (by omega : v.text.length < 2 ^ 64)]
    refine ⟨by simp; omega, ?_⟩
    refine goQ_by (q_refnat v.text.length (by omega)) ?_
    simp only [go_sem, reduceIte, Nat.reduceEqDiff, Nat.reduceAdd, Nat.reduceMul, Nat.reduceSub, Nat.reduceLeDiff, Nat.reduceLT, reduceCtorEq, wrapN (by omega : v.args.length < 2 ^ 64)]
    refine ⟨by simp; omega, by simp; omega, ?_⟩
    refine goQ_by (q_refnat v.args.length (by omega)) ?_
    simp only [go_sem, reduceIte, Nat.reduceEqDiff, Nat.reduceAdd, Nat.reduceMul, Nat.reduceSub, Nat.reduceLeDiff, Nat.reduceLT, reduceCtorEq]
    refine ⟨by simp; omega, ?_⟩
    refine aw_seq fun K4 hK4 => ?_
    refine aw_sr rfl ?_
    simp only [go_sem, reduceIte, Nat.reduceEqDiff, Nat.reduceAdd, Nat.reduceMul, Nat.reduceSub, Nat.reduceLeDiff, Nat.reduceLT, reduceCtorEq]
    refine aw_range v.args.length (S := Unit) (fun i _ => [(31, .sl (v.args.map eVal) v.nl .no), (3, .str (([u8 v.kind] ++ natB (numN v.num) ++ natB v.text.length ++ v.text ++ natB v.args.length) ++ encVs (v.args.take i)))]) (fun _ _ => (b1, .vars (cV v)) :: G) (fun _ _ => True) () (by omega) ?_ (fun _ _ h => h) trivial rfl (fun _ _ => rfl) ?_ ?_ (by decide)
    · simp only [go_sem, reduceIte, Nat.reduceEqDiff, Nat.reduceAdd, Nat.reduceMul, Nat.reduceSub, Nat.reduceLeDiff, Nat.reduceLT, reduceCtorEq, Int.natCast_zero, List.take_zero, encVs]
    · intro i _ hi _
      have ha := List.getElem_mem hi
      have h1 := encVs_take_len v.args (i + 1)
      rw [encVs_succ hi, List.length_append] at h1
      refine aw_sr rfl ?_
      simp only [go_sem, reduceIte, Nat.reduceEqDiff, Nat.reduceAdd, Nat.reduceMul, Nat.reduceSub, Nat.reduceLeDiff, Nat.reduceLT, reduceCtorEq, getD_map hi, eC, cV]
      refine ⟨⟨by omega, by omega, wid_eVal _⟩, fun b5 hb5 => ?_⟩
      refine aw_rg rfl ?_
      simp only [go_sem, reduceIte, Nat.reduceEqDiff, Nat.reduceAdd, Nat.reduceMul, Nat.reduceSub, Nat.reduceLeDiff, Nat.reduceLT, reduceCtorEq]
      refine goA_q (ih v.args[i] (by have := Val.sz_args ha; omega) (ho.arg ha) (by omega)) ?_
      simp only [go_sem, reduceIte, Nat.reduceEqDiff, Nat.reduceAdd, Nat.reduceMul, Nat.reduceSub, Nat.reduceLeDiff, Nat.reduceLT, reduceCtorEq]
      refine ⟨by simp; omega, (), ?_, sub_tail hb5⟩
      rw [encVs_succ hi]
      simp only [go_sem, reduceIte, Nat.reduceEqDiff, Nat.reduceAdd, Nat.reduceMul, Nat.reduceSub, Nat.reduceLeDiff, Nat.reduceLT, reduceCtorEq, List.append_assoc]
    · intro _ _
      refine hK4 _ _ ?_
      refine aw_sr rfl ?_
      simp only [go_sem, reduceIte, Nat.reduceEqDiff, Nat.reduceAdd, Nat.reduceMul, Nat.reduceSub, Nat.reduceLeDiff, Nat.reduceLT, reduceCtorEq]
      refine aw_ret ⟨trivial, _, rfl, ?_, sub_tail hb1⟩
      have e : [u8 v.kind] ++ natB (numN v.num) ++ natB v.text.length ++ v.text ++ natB v.args.length ++ encVs (v.args.take v.args.length) = encV v := by
        rw [List.take_length, hle, textB]; simp
      rw [← e]
      exact Vle.refl _
end Go.Proofs.YtlgfffngojlffaaGreat

set_option linter.unusedSimpArgs false
set_option linter.unusedVariables false
namespace Go.Proofs.YtlgfffngojlffaaGreat
open Go.Proofs.YtlgfffngojlffaaGreatV
set_option maxHeartbeats 400000
set_option maxRecDepth 100000
/-! ### slices.Contains of bytes -/
theorem q_IndexB (l : List UInt8) (nl : Bool) (t : Tag) (c : Int) (hl : l.length ≤ 1048576) : ∃ n : Int, (0 ≤ n ↔ l.any (fun b => decide (c = (b.toNat : Int))) = true) ∧ Quiet Tryz.prog 101 [.sl (bytesV l) nl t, .int .u8 c] (.int .i64 n) := by
  refine ⟨if l.any (fun b => decide (c = (b.toNat : Int))) = true then (l.findIdx (fun b => decide (c = (b.toNat : Int))) : Int) else -1, ?_, ?_⟩
  · split <;> rename_i h <;> simp [h] <;> omega
  intro G
  refine acall_body (rs := [.tmp 4]) Tryz.func101 rfl rfl Tryz.ntmps101 (by kernel_rfl) (Nat.le_of_ble_eq_true rfl) ?_
  refine aw_sr rfl ?_
  simp only [go_sem, reduceIte, Nat.reduceEqDiff, Nat.reduceAdd, Nat.reduceMul, Nat.reduceSub, Nat.reduceLeDiff, Nat.reduceLT, reduceCtorEq]
  refine aw_seq fun K5 hK5 => ?_
  refine aw_sr rfl ?_
  simp only [go_sem, reduceIte, Nat.reduceEqDiff, Nat.reduceAdd, Nat.reduceMul, Nat.reduceSub, Nat.reduceLeDiff, Nat.reduceLT, reduceCtorEq]
  refine aw_range l.length (S := {H : Heap // H = G}) (fun _ _ => [(0, .sl (bytesV l) nl t), (1, .int .u8 c)]) (fun _ s => s.1) (fun i _ => ∀ j (h : j < l.length), j < i → decide (c = (l[j].toNat : Int)) = false) ⟨G, rfl⟩ (by omega) ?_ (fun _ _ h => h) (fun j _ h => absurd h (by omega)) rfl (fun _ _ => rfl) ?_ ?_ (by decide)
  · simp only [go_sem, reduceIte, Nat.reduceEqDiff, Nat.reduceAdd, Nat.reduceMul, Nat.reduceSub, Nat.reduceLeDiff, Nat.reduceLT, reduceCtorEq, Int.natCast_zero]
  · intro i ⟨H, hH⟩ hi he
    subst hH
    refine aw_sr rfl ?_
    simp only [go_sem, reduceIte, Nat.reduceEqDiff, Nat.reduceAdd, Nat.reduceMul, Nat.reduceSub, Nat.reduceLeDiff, Nat.reduceLT, reduceCtorEq]
    refine aw_sr rfl ?_
    simp only [go_sem, reduceIte, Nat.reduceEqDiff, Nat.reduceAdd, Nat.reduceMul, Nat.reduceSub, Nat.reduceLeDiff, Nat.reduceLT, reduceCtorEq, getD_bytes hi]
    refine ⟨⟨by omega, by omega, wid_bytes _⟩, ?_⟩
    refine aw_if rfl (fun h => ?_) (fun h => ?_)
    · refine aw_sr rfl ?_
      simp only [go_sem, reduceIte, Nat.reduceEqDiff, Nat.reduceAdd, Nat.reduceMul, Nat.reduceSub, Nat.reduceLeDiff, Nat.reduceLT, reduceCtorEq]
      refine aw_ret ⟨trivial, _, rfl, ?_, rfl⟩
      have e : l.findIdx (fun b => decide (c = (b.toNat : Int))) = i := (List.findIdx_eq hi).2 ⟨h, fun j hj => he j (by omega) hj⟩
      have ha : l.any (fun b => decide (c = (b.toNat : Int))) = true := List.any_eq_true.2 ⟨_, List.getElem_mem hi, h⟩
      rw [if_pos ha, e]
      rfl
    · refine aw_skip ⟨⟨H, rfl⟩, fun j hj hlt => ?_, ?_, fun _ _ h => h⟩
      · by_cases e : j = i
        · subst e; exact h
        · exact he j hj (by omega)
      simp only [go_sem, reduceIte, Nat.reduceEqDiff, Nat.reduceAdd, Nat.reduceMul, Nat.reduceSub, Nat.reduceLeDiff, Nat.reduceLT, reduceCtorEq]
  · intro ⟨H, hH⟩ he
    subst hH
    refine hK5 _ _ ?_
    refine aw_sr rfl ?_
    simp only [go_sem, reduceIte, Nat.reduceEqDiff, Nat.reduceAdd, Nat.reduceMul, Nat.reduceSub, Nat.reduceLeDiff, Nat.reduceLT, reduceCtorEq]
    refine aw_ret ⟨trivial, _, rfl, ?_, rfl⟩
    have ha : ¬ l.any (fun b => decide (c = (b.toNat : Int))) = true := by
      rw [Bool.not_eq_true, List.any_eq_false]
      intro x hx
      obtain ⟨j, hj, rfl⟩ := List.getElem_of_mem hx
      rw [he j hj hj]; simp
    rw [if_neg ha]
    rfl
theorem q_ContainsB (l : List UInt8) (nl : Bool) (t : Tag) (c : Int) (hl : l.length ≤ 1048576) : Quiet Tryz.prog 95 [.sl (bytesV l) nl t, .int .u8 c] (.bool (l.any fun b => decide (c = (b.toNat : Int)))) := by
  obtain ⟨n, hn, hq⟩ := q_IndexB l nl t c hl
  intro G
  refine acall_body (rs := [.tmp 4]) Tryz.func95 rfl rfl Tryz.ntmps95 (by kernel_rfl) (Nat.le_of_ble_eq_true rfl) ?_
  refine aw_sr rfl ?_
  simp only [go_sem, reduceIte, Nat.reduceEqDiff, Nat.reduceAdd, Nat.reduceMul, Nat.reduceSub, Nat.reduceLeDiff, Nat.reduceLT, reduceCtorEq]
  refine aw_sr rfl ?_
  simp only [go_sem, reduceIte, Nat.reduceEqDiff, Nat.reduceAdd, Nat.reduceMul, Nat.reduceSub, Nat.reduceLeDiff, Nat.reduceLT, reduceCtorEq]
  refine goA_q hq ?_
  simp only [go_sem, reduceIte, Nat.reduceEqDiff, Nat.reduceAdd, Nat.reduceMul, Nat.reduceSub, Nat.reduceLeDiff, Nat.reduceLT, reduceCtorEq]
  refine aw_ret ⟨trivial, _, rfl, ?_, rfl⟩
  have e : decide (n ≥ 0) = l.any fun b => decide (c = (b.toNat : Int)) := by
    rw [Bool.eq_iff_iff, decide_eq_true_eq]; exact hn
  rw [← e]
  rfl
/-! ### what holds of all nodes -/
mutual
def allV (p : Val → Nat → Bool) : Val → Nat → Bool | .mk k n t ar nl, d => p (.mk k n t ar nl) d && allVs p ar (d + 1)
def allVs (p : Val → Nat → Bool) : List Val → Nat → Bool | [], _ => true | v :: vs, d => allV p v d && allVs p vs d
end
abbrev At := Val × Nat
def kids (x : At) : List At := x.1.args.map fun a => (a, x.2 + 1)
theorem allVs_kids (p : Val → Nat → Bool) : ∀ (l : List Val) (d : Nat), allVs p l d = (l.map fun a => (a, d)).all fun x => allV p x.1 x.2
  | [], _ => rfl
  | v :: l, d => by rw [allVs, allVs_kids p l d]; rfl
theorem allV_eq (p : Val → Nat → Bool) (x : At) : allV p x.1 x.2 = (p x.1 x.2 && (kids x).all fun y => allV p y.1 y.2) := by
  obtain ⟨v, d⟩ := x
  cases v
  rw [allV, allVs_kids]
  rfl
def lim (N a b : Nat) : Bool := !((decide (N > 400) || decide (a > 40)) || decide (b > 4000))
theorem lim_iff (N a b : Nat) : lim N a b = true ↔ N ≤ 400 ∧ a ≤ 40 ∧ b ≤ 4000 := by
  simp only [lim, Bool.not_eq_true', Bool.or_eq_false_iff, decide_eq_false_iff_not, Nat.not_lt, gt_iff_lt, and_assoc]
mutual
theorem all_large (N : Nat) : ∀ (v : Val) (d : Nat), allV (fun x d => lim N d x.text.length) v d = true ↔ lim N (d + v.deep - 1) v.long = true
  | .mk k n t ar nl, d => by
    have ih := alls_large N ar (d + 1)
    rw [allV, Bool.and_eq_true, ih, Val.deep, Val.long]
    rw [lim_iff, lim_iff]
    show (N ≤ 400 ∧ d ≤ 40 ∧ t.length ≤ 4000) ∧ _ ↔ _
    rw [lim_iff]
    cases ar with
    | nil => simp only [deeps, longs, true_or, and_true, Nat.max_le]; omega
    | cons a ar =>
      have : ¬ (a :: ar = []) := by simp
      simp only [this, false_or, Nat.max_le]
      have h1 : 1 ≤ deeps (a :: ar) := by rw [deeps, deep_eq]; omega
      omega
theorem alls_large (N : Nat) : ∀ (l : List Val) (d : Nat), allVs (fun x d => lim N d x.text.length) l d = true ↔ (l = [] ∨ lim N (d + deeps l - 1) (longs l) = true)
  | [], d => by simp [allVs]
  | v :: l, d => by
    have ih := alls_large N l d
    have ih1 := all_large N v d
    rw [allVs, Bool.and_eq_true, ih1, ih]
    have : ¬ (v :: l = []) := by simp
    simp only [this, false_or, deeps, longs]
    have h1 : 1 ≤ v.deep := by rw [deep_eq]; omega
    rw [lim_iff, lim_iff]
    cases l with
    | nil => simp only [deeps, longs, true_or, and_true, Nat.max_zero]; exact (lim_iff _ _ _).symm
    | cons u l =>
      have : ¬ (u :: l = []) := by simp
      simp only [this, false_or]
      rw [lim_iff, Nat.max_le]
      have h2 : 1 ≤ deeps (u :: l) := by rw [deeps, deep_eq]; omega
      omega
end
mutual
theorem all_node : ∀ (v : Val) (d : Nat), allV (fun x _ => nodeV x) v d = rightV v
  | .mk k n t ar nl, d => by rw [allV, rightV, alls_node ar]
theorem alls_node : ∀ (l : List Val) (d : Nat), allVs (fun x _ => nodeV x) l d = rightVs l
  | [], _ => rfl
  | v :: l, d => by rw [allVs, rightVs, all_node v, alls_node l]
end
end Go.Proofs.YtlgfffngojlffaaGreat

set_option linter.unusedSimpArgs false
set_option linter.unusedVariables false
namespace Go.Proofs.YtlgfffngojlffaaGreat
open Go.Proofs.YtlgfffngojlffaaGreatV
set_option maxHeartbeats 400000
set_option maxRecDepth 100000
abbrev cAt (x : At) : List V := [.int .i64 x.1.kind, .int .i64 x.1.num, .str x.1.text, .sl (x.1.args.map eVal) x.1.nl .no, .int .i64 x.2]
def eAt (x : At) : List V := cAt x
theorem sca_eAt (l : List At) : sca (l.map eAt) := by
  intro e he x hx
  obtain ⟨u, _, rfl⟩ := List.mem_map.1 he
  simp only [eAt, cAt, List.mem_cons, List.not_mem_nil, or_false] at hx
  rcases hx with rfl | rfl | rfl | rfl | rfl <;> rfl
theorem wid_eAt (l : List At) : wid 5 (l.map eAt) := wid_map (g := eAt) (fun _ => rfl) _
/-- What a kind has; how many args at most. -/
def hasF (v : Val) : List UInt8 := if v.kind = 2 ∨ v.kind = 6 then [110] else if v.kind = 3 then (if v.num = 1 then [110] else []) else if v.kind = 4 then [116] else if v.kind = 5 then [116] else if v.kind = 7 then [110, 116] else []
def mostF (v : Val) : Int := if v.kind = 5 then 400 else if v.kind = 7 then 400 else if v.kind = 8 then 1 else 0
/-- What the reference asks of a node whose kind there is. -/
def badN (v : Val) : Bool := ((!decide (v.num = 0) && !(hasF v).any (fun b => decide ((110 : Int) = (b.toNat : Int)))) || (!decide (v.text = []) && !(hasF v).any (fun b => decide ((116 : Int) = (b.toNat : Int))))) || decide ((v.args.length : Int) > mostF v)
theorem badN_node {v : Val} (h1 : v.kind = 1 ∨ (v.kind = 2 ∨ v.kind = 6) ∨ v.kind = 3 ∨ v.kind = 4 ∨ v.kind = 5 ∨ v.kind = 7 ∨ v.kind = 8) (h5 : v.kind = 5 → ¬ v.text = []) (hl : v.args.length ≤ 400) : badN v = !nodeV v := by
  have e0 : decide (0 < v.args.length) = !decide (v.args = []) := by cases v.args <;> simp
  have e4 : decide ((v.args.length : Int) > 400) = false := decide_eq_false (by omega)
  have e1 : decide ((v.args.length : Int) > 1) = !decide ((v.args.length : Int) ≤ 1) := by
    rw [← decide_not]; exact decide_eq_decide.2 (by omega)
  rcases h1 with h | h | h | h | h | h | h
  · simp [badN, nodeV, hasF, mostF, h, Bool.not_and, e0]
  · rcases h with h | h <;> simp [badN, nodeV, hasF, mostF, h, Bool.not_and, e0]
  · by_cases hn : v.num = 1
    · simp [badN, nodeV, hasF, mostF, h, hn, Bool.not_and, e0]
    · simp [badN, nodeV, hasF, mostF, h, hn, Bool.not_and, e0]
  · simp [badN, nodeV, hasF, mostF, h, Bool.not_and, e0]
  · have := h5 h
    have hb : hasF v = [116] := by simp [hasF, h]
    have hm : mostF v = 400 := by simp [mostF, h]
    have hn : nodeV v = (decide (v.num = 0) && !decide (v.text = [])) := by simp [nodeV, h]
    rw [badN, hb, hm, hn, e4, decide_eq_false this]
    simp
  · have hb : hasF v = [110, 116] := by simp [hasF, h]
    have hm : mostF v = 400 := by simp [mostF, h]
    have hn : nodeV v = true := by simp [nodeV, h]
    rw [badN, hb, hm, hn, e4]
    simp
  · have hb : hasF v = [] := by simp [hasF, h]
    have hm : mostF v = 1 := by simp [mostF, h]
    have hn : nodeV v = (decide (v.num = 0) && decide (v.text = []) && decide ((v.args.length : Int) ≤ 1)) := by simp [nodeV, h]
    rw [badN, hb, hm, hn, e1]
    simp only [List.any_nil, Bool.not_false, Bool.and_true, Bool.not_and]
structure BfS where
  l : List At
  i : Nat
  nl : Bool
  t : Tag
  H : Heap
structure BfOk (v : Val) (l : List At) (i : Nat) : Prop where
  le : i ≤ l.length
  sz : szs ((l.drop i).map (·.1)) + i = v.sz
  all : ∀ p : Val → Nat → Bool, ((l.take i).all (fun x => p x.1 x.2) && (l.drop i).all (fun x => allV p x.1 x.2)) = allV p v 1
  ok : ∀ x ∈ l, x.2 + x.1.deep ≤ v.deep + 1 ∧ x.1.sz ≤ v.sz ∧ OkVal x.1
theorem szs_kids (x : At) : szs ((kids x).map (·.1)) = szs x.1.args := by
  have : (kids x).map (·.1) = x.1.args := by simp [kids, List.map_map, Function.comp_def]
  rw [this]
theorem deep_arg {v a : Val} (h : a ∈ v.args) : a.deep + 1 ≤ v.deep := by
  rw [deep_eq v]
  have : ∀ l : List Val, a ∈ l → a.deep ≤ deeps l := by
    intro l
    induction l with
    | nil => intro h; cases h
    | cons u l ih =>
      intro h
      rw [deeps]
      rcases List.mem_cons.1 h with rfl | h
      · exact Nat.le_max_left _ _
      · exact Nat.le_trans (ih h) (Nat.le_max_right _ _)
  have := this _ h
  omega
theorem BfOk.next {v : Val} {l : List At} {i : Nat} (h : BfOk v l i) (hi : i < l.length) : BfOk v (l ++ kids l[i]) (i + 1) := by
  have hd := List.drop_eq_getElem_cons hi
  have h1 : (l ++ kids l[i]).drop (i + 1) = l.drop (i + 1) ++ kids l[i] := by rw [List.drop_append_of_le_length (by omega)]
  have h2 : (l ++ kids l[i]).take (i + 1) = l.take i ++ [l[i]] := by rw [List.take_append_of_le_length (by omega), List.take_succ_eq_append_getElem hi]
  refine ⟨by simp; omega, ?_, fun p => ?_, fun x hx => ?_⟩
  · have := h.sz
    rw [hd, List.map_cons, szs, Val.sz_eq] at this
    rw [h1, List.map_append, szs_append, szs_kids]
    omega
  · rw [h1, h2, ← h.all p, hd]
    simp only [List.all_append, List.all_cons, List.all_nil, Bool.and_true]
    rw [allV_eq p l[i]]
    ac_rfl
  · rcases List.mem_append.1 hx with hx | hx
    · exact h.ok x hx
    · obtain ⟨a, ha, rfl⟩ := List.mem_map.1 hx
      obtain ⟨g1, g2, g3⟩ := h.ok _ (List.getElem_mem hi)
      have := deep_arg ha
      have := Val.sz_args ha
      exact ⟨by show l[i].2 + 1 + a.deep ≤ v.deep + 1; omega, by show a.sz ≤ v.sz; omega, g3.arg ha⟩
theorem BfOk.start {v : Val} (h : OkVal v) : BfOk v [(v, 1)] 0 := ⟨by simp, by simp [szs], fun p => by simp, fun x hx => by simp at hx; subst hx; exact ⟨by simp; omega, Nat.le_refl _, h⟩⟩
theorem kids_succ {x : At} {j : Nat} (h : j < x.1.args.length) : (kids x).take (j + 1) = (kids x).take j ++ [(x.1.args[j], x.2 + 1)] := by
  have : j < (kids x).length := by simpa [kids] using h
  rw [List.take_succ_eq_append_getElem this]; simp [kids]
theorem q_ValueFault (v : Val) (ho : oVal v) : Quiet Tryz.prog 82 [.agg (cV v)] (.int .i64 (checkV v)) := by
  have hb : v.sz ≤ 1048576 := ho.2
  have hdl := deep_le v
  refine Quiet.weak fun G => ?_
  refine acall_body (rs := [.tmp 2]) Tryz.func82 rfl rfl Tryz.ntmps82 (by kernel_rfl) (Nat.le_of_ble_eq_true rfl) ?_
  refine aw_sr rfl ?_
  simp only [go_sem, reduceIte, Nat.reduceEqDiff, Nat.reduceAdd, Nat.reduceMul, Nat.reduceSub, Nat.reduceLeDiff, Nat.reduceLT, reduceCtorEq]
  intro b1 hb1
  refine aw_sr rfl ?_
  simp only [go_sem, reduceIte, Nat.reduceEqDiff, Nat.reduceAdd, Nat.reduceMul, Nat.reduceSub, Nat.reduceLeDiff, Nat.reduceLT, reduceCtorEq]
  refine aw_seq fun K1 hK1 => ?_
  refine aw_sr rfl ?_
  simp only [go_sem, reduceIte, Nat.reduceEqDiff, Nat.reduceAdd, Nat.reduceMul, Nat.reduceSub, Nat.reduceLeDiff, Nat.reduceLT, reduceCtorEq]
  refine aw_block ?_
  refine aw_lph (S := {s : BfS // BfOk v s.l s.i ∧ Room G 5 s.t s.H}) (fun s => [(3, .sl (s.1.l.map eAt) s.1.nl s.1.t), (4, .int .i64 s.1.i)]) (fun s => s.1.H) (fun s => v.sz - s.1.i) ⟨⟨[(v, 1)], 0, false, .full, G⟩, BfOk.start ho.1, Room.start G 5⟩ ?_ (sub_tail hb1) ?_
  · simp only [go_sem, reduceIte, Nat.reduceEqDiff, Nat.reduceAdd, Nat.reduceMul, Nat.reduceSub, Nat.reduceLeDiff, Nat.reduceLT, reduceCtorEq, List.map_cons, List.map_nil, eAt, cAt, Int.natCast_zero, Int.natCast_one]
  intro ⟨⟨l, i, nl, t, H⟩, hbf, hr⟩
  simp only at hbf hr ⊢
  have hszl := szs_len ((l.drop i).map (·.1))
  have hsz := hbf.sz
  have hle := hbf.le
  rw [List.length_map, List.length_drop] at hszl
  refine aw_seq fun K2 hK2 => ?_
  refine aw_sr rfl ?_
  simp only [go_sem, reduceIte, Nat.reduceEqDiff, Nat.reduceAdd, Nat.reduceMul, Nat.reduceSub, Nat.reduceLeDiff, Nat.reduceLT, reduceCtorEq]
  refine aw_if rfl (fun h => ?_) (fun h => ?_)
  · have hi : i < l.length := by
      have : (i : Int) < (l.length : Int) := by simpa using h
      omega
    have hnx := hbf.next hi
    obtain ⟨o1, o2, o3⟩ := hbf.ok _ (List.getElem_mem hi)
    have hal : l[i].1.args.length ≤ 1048576 := o3.len
    have hnl := szs_len (((l ++ kids l[i]).drop (i + 1)).map (·.1))
    rw [List.length_map, List.length_drop, List.length_append] at hnl
    have hns := hnx.sz
    have hkl : (kids l[i]).length = l[i].1.args.length := by simp [kids]
    refine aw_skip (hK2 _ _ ?_)
    refine aw_seq fun K3 hK3 => ?_
    refine aw_block ?_
    refine aw_sr rfl ?_
    simp only [go_sem, reduceIte, Nat.reduceEqDiff, Nat.reduceAdd, Nat.reduceMul, Nat.reduceSub, Nat.reduceLeDiff, Nat.reduceLT, reduceCtorEq, getD_map hi, eAt, cAt]
    refine ⟨⟨by omega, by omega, wid_eAt _⟩, ?_⟩
    refine aw_range l[i].1.args.length (S := Bool × Tag × Heap) (fun j s => [(29, .sl (l[i].1.args.map eVal) l[i].1.nl .no), (3, .sl ((l ++ (kids l[i]).take j).map eAt) s.1 s.2.1), (4, .int .i64 i)]) (fun _ s => s.2.2) (fun j s => Room G 5 s.2.1 s.2.2) (nl, t, H) (by omega) ?_ (fun _ _ h => h) hr rfl (fun _ _ => rfl) ?_ ?_ (by decide)
    · simp only [go_sem, reduceIte, Nat.reduceEqDiff, Nat.reduceAdd, Nat.reduceMul, Nat.reduceSub, Nat.reduceLeDiff, Nat.reduceLT, reduceCtorEq, Int.natCast_zero, List.take_zero, List.append_nil]
    · intro j ⟨nl2, t2, H2⟩ hj he
      simp only at he ⊢
      have hi2 : i < (l ++ (kids l[i]).take j).length := by simp; omega
      have hgl : (l ++ (kids l[i]).take j)[i] = l[i] := List.getElem_append_left hi
      refine aw_sr rfl ?_
      simp only [go_sem, reduceIte, Nat.reduceEqDiff, Nat.reduceAdd, Nat.reduceMul, Nat.reduceSub, Nat.reduceLeDiff, Nat.reduceLT, reduceCtorEq, getD_map hj, eC, cV]
      refine ⟨⟨by omega, by omega, wid_eVal _⟩, fun b6 hb6 => ?_⟩
      obtain ⟨H3, hr3, hs3⟩ := he.push (o := .vars (cV l[i].1.args[j])) hb6
      refine AW.of_hsub hs3 ?_
      have hg6 : hget H3 b6 = some (.vars (cV l[i].1.args[j])) := hr3.sub _ _ (hget_self _ _ _)
      have hw : IntKind.i64.wrap ((l[i].2 : Int) + 1) = ((l[i].2 + 1 : Nat) : Int) := by rw [wrap64 (by omega) (by omega)]; simp
      refine aw_rgd [(0,true),(1,true),(2,true),(3,true),(4,true),(5,true),(6,true),(7,true),(8,true),(9,true),(10,false),(11,true)] mixed rfl (by kernel_rfl) ?_
      simp only [go_sem, reduceIte, Nat.reduceEqDiff, Nat.reduceAdd, Nat.reduceMul, Nat.reduceSub, Nat.reduceLeDiff, Nat.reduceLT, reduceCtorEq, getD_map hi2, hgl, eAt, cAt, hg6, hw]
      refine ⟨⟨by omega, by omega, wid_eAt _⟩, ?_⟩
      refine goP_room hr3 ?_ fun t' H' hr' => ?_
      · exact ⟨rfl, rfl, by decide, wid_eAt _, wid_one rfl, sca_one rfl, by simp; omega, by simp; omega⟩
      have happ : (l ++ (kids l[i]).take j).map eAt ++ [cAt (l[i].1.args[j], l[i].2 + 1)] = (l ++ (kids l[i]).take (j + 1)).map eAt := by
        rw [kids_succ hj]; simp [eAt]
      simp only [go_sem, reduceIte, Nat.reduceEqDiff, Nat.reduceAdd, Nat.reduceMul, Nat.reduceSub, Nat.reduceLeDiff, Nat.reduceLT, reduceCtorEq, happ]
      obtain ⟨H4, hr4, hs4⟩ := hr'.pop (he.sub_none hb6)
      refine ⟨(nl2 && false, t', H4), hr4, ?_, hs4⟩
      simp only [go_sem, reduceIte, Nat.reduceEqDiff, Nat.reduceAdd, Nat.reduceMul, Nat.reduceSub, Nat.reduceLeDiff, Nat.reduceLT, reduceCtorEq]
    · intro ⟨nl2, t2, H2⟩ he
      simp only at he ⊢
      refine hK3 _ _ ?_
      refine aw_rg rfl ?_
      have hw : IntKind.i64.wrap ((i : Int) + 1) = ((i + 1 : Nat) : Int) := by rw [wrap64 (by omega) (by omega)]; simp
      have htk : (kids l[i]).take l[i].1.args.length = kids l[i] := List.take_of_length_le (by omega)
      simp only [go_sem, reduceIte, Nat.reduceEqDiff, Nat.reduceAdd, Nat.reduceMul, Nat.reduceSub, Nat.reduceLeDiff, Nat.reduceLT, reduceCtorEq, hw, htk]
      refine ⟨⟨⟨l ++ kids l[i], i + 1, nl2, t2, H2⟩, hnx, he⟩, ?_, ?_, fun _ _ h => h⟩
      · show v.sz - (i + 1) < v.sz - i; omega
      · simp only [go_sem, reduceIte, Nat.reduceEqDiff, Nat.reduceAdd, Nat.reduceMul, Nat.reduceSub, Nat.reduceLeDiff, Nat.reduceLT, reduceCtorEq]
  have hge : i = l.length := by
    have : ¬ (i : Int) < (l.length : Int) := by simpa using h
    omega
  refine aw_exit ?_
  refine hK1 _ _ ?_
  have hlen : l.length = v.sz := by rw [hge, List.drop_length] at hsz; simpa [szs] using hsz
  have hall : ∀ p : Val → Nat → Bool, l.all (fun x => p x.1 x.2) = allV p v 1 := fun p => by
    have := hbf.all p
    rw [hge, List.take_length, List.drop_length] at this
    simpa using this
  refine AW.of_hsub hr.sub ?_
  refine aw_seq fun K4 hK4 => ?_
  refine aw_sr rfl ?_
  simp only [go_sem, reduceIte, Nat.reduceEqDiff, Nat.reduceAdd, Nat.reduceMul, Nat.reduceSub, Nat.reduceLeDiff, Nat.reduceLT, reduceCtorEq]
  refine aw_range l.length (S := Unit) (fun _ _ => [(47, .sl (l.map eAt) nl t), (3, .sl (l.map eAt) nl t)]) (fun _ _ => G) (fun j _ => (l.take j).all (fun x => lim v.sz x.2 x.1.text.length) = true) () (by omega) ?_ (fun _ _ h => h) rfl rfl (fun _ _ => rfl) ?_ ?_ (by decide)
  · simp only [go_sem, reduceIte, Nat.reduceEqDiff, Nat.reduceAdd, Nat.reduceMul, Nat.reduceSub, Nat.reduceLeDiff, Nat.reduceLT, reduceCtorEq, Int.natCast_zero]
  · intro j _ hj he
    refine aw_sr rfl ?_
    simp only [go_sem, reduceIte, Nat.reduceEqDiff, Nat.reduceAdd, Nat.reduceMul, Nat.reduceSub, Nat.reduceLeDiff, Nat.reduceLT, reduceCtorEq, getD_map hj, eAt, cAt]
    refine ⟨⟨by omega, by omega, wid_eAt _⟩, fun b8 hb8 => ?_⟩
    refine aw_sr rfl ?_
    simp only [go_sem, reduceIte, Nat.reduceEqDiff, Nat.reduceAdd, Nat.reduceMul, Nat.reduceSub, Nat.reduceLeDiff, Nat.reduceLT, reduceCtorEq]
    have hc : (decide ((400 : Int) < (l.length : Int)) || decide ((40 : Int) < (l[j].2 : Int)) || decide ((4000 : Int) < (l[j].1.text.length : Int))) = !lim v.sz l[j].2 l[j].1.text.length := by
      rw [lim, Bool.not_not]
      congr 1
      · congr 1
        · exact decide_eq_decide.2 (by omega)
        · exact decide_eq_decide.2 (by omega)
      · exact decide_eq_decide.2 (by omega)
    refine aw_if rfl (fun h => ?_) (fun h => ?_)
    · refine aw_sr rfl ?_
      simp only [go_sem, reduceIte, Nat.reduceEqDiff, Nat.reduceAdd, Nat.reduceMul, Nat.reduceSub, Nat.reduceLeDiff, Nat.reduceLT, reduceCtorEq]
      refine aw_ret ⟨trivial, _, rfl, ?_, sub_tail hb8⟩
      have h' := hc.symm.trans h
      have hf : l.all (fun x => lim v.sz x.2 x.1.text.length) = false := all_not hj (by simpa using h')
      have hf2 : ¬ lim v.sz (1 + v.deep - 1) v.long = true := by rw [← all_large, ← hall (fun x d => lim v.sz d x.text.length), hf]; simp
      have hcl : ((decide (v.sz > 400) || decide (v.deep > 40)) || decide (v.long > 4000)) = true := by
        rw [Nat.add_sub_cancel_left, Bool.not_eq_true, lim, Bool.not_eq_false'] at hf2
        exact hf2
      rw [checkV, if_pos hcl]
      exact Vle.refl _
    · have h' := hc.symm.trans h
      refine aw_skip ⟨(), all_take_next he hj (by simpa using h'), ?_, sub_tail hb8⟩
      simp only [go_sem, reduceIte, Nat.reduceEqDiff, Nat.reduceAdd, Nat.reduceMul, Nat.reduceSub, Nat.reduceLeDiff, Nat.reduceLT, reduceCtorEq]
  intro _ hlim
  rw [List.take_length, hall (fun x d => lim v.sz d x.text.length), all_large, Nat.add_sub_cancel_left] at hlim
  have hcl : ¬ ((decide (v.sz > 400) || decide (v.deep > 40)) || decide (v.long > 4000)) = true := by
    rw [lim, Bool.not_eq_true'] at hlim; rw [hlim]; simp
  have hs4 : v.sz ≤ 400 := ((lim_iff _ _ _).1 hlim).1
  refine hK4 _ _ ?_
  refine aw_seq fun K5 hK5 => ?_
  refine aw_sr rfl ?_
  simp only [go_sem, reduceIte, Nat.reduceEqDiff, Nat.reduceAdd, Nat.reduceMul, Nat.reduceSub, Nat.reduceLeDiff, Nat.reduceLT, reduceCtorEq]
  refine aw_range l.length (S := Unit) (fun _ _ => [(69, .sl (l.map eAt) nl t)]) (fun _ _ => G) (fun j _ => (l.take j).all (fun x => nodeV x.1) = true) () (by omega) ?_ (fun _ _ h => h) rfl rfl (fun _ _ => rfl) ?_ ?_ (by decide)
  · simp only [go_sem, reduceIte, Nat.reduceEqDiff, Nat.reduceAdd, Nat.reduceMul, Nat.reduceSub, Nat.reduceLeDiff, Nat.reduceLT, reduceCtorEq, Int.natCast_zero]
  · intro j _ hj he
    obtain ⟨o1, o2, o3⟩ := hbf.ok _ (List.getElem_mem hj)
    have hal : l[j].1.args.length ≤ 400 := by have := szs_len l[j].1.args; have := l[j].1.sz_eq; omega
    have hbadr : nodeV l[j].1 = false → checkV v = 3 := fun hn => by
      have hf : l.all (fun x => nodeV x.1) = false := all_not hj hn
      rw [hall (fun x _ => nodeV x), all_node] at hf
      rw [checkV, if_neg hcl, if_pos hf]
    refine aw_sr rfl ?_
    simp only [go_sem, reduceIte, Nat.reduceEqDiff, Nat.reduceAdd, Nat.reduceMul, Nat.reduceSub, Nat.reduceLeDiff, Nat.reduceLT, reduceCtorEq, getD_map hj, eAt, cAt]
    refine ⟨⟨by omega, by omega, wid_eAt _⟩, fun b10 hb10 => ?_⟩
    refine aw_sr rfl ?_
    simp only [go_sem, reduceIte, Nat.reduceEqDiff, Nat.reduceAdd, Nat.reduceMul, Nat.reduceSub, Nat.reduceLeDiff, Nat.reduceLT, reduceCtorEq]
    refine aw_mid (fun f' G' => (FSub [(11, .str (hasF l[j].1)), (12, .int .i64 (mostF l[j].1)), (10, .ptr b10 0), (71, .int .i64 j), (70, .int .i64 l.length), (69, .sl (l.map eAt) nl t)] f' ∧ G' = (b10, .vars (cAt l[j])) :: G) ∧ (l[j].1.kind = 1 ∨ (l[j].1.kind = 2 ∨ l[j].1.kind = 6) ∨ l[j].1.kind = 3 ∨ l[j].1.kind = 4 ∨ l[j].1.kind = 5 ∨ l[j].1.kind = 7 ∨ l[j].1.kind = 8) ∧ (l[j].1.kind = 5 → ¬ l[j].1.text = [])) ?_ ?_
    · refine aw_sr rfl ?_
      simp only [go_sem, reduceIte, Nat.reduceEqDiff, Nat.reduceAdd, Nat.reduceMul, Nat.reduceSub, Nat.reduceLeDiff, Nat.reduceLT, reduceCtorEq]
      refine aw_block ?_
      refine aw_sr rfl ?_
      simp only [go_sem, reduceIte, Nat.reduceEqDiff, Nat.reduceAdd, Nat.reduceMul, Nat.reduceSub, Nat.reduceLeDiff, Nat.reduceLT, reduceCtorEq]
      refine aw_if rfl (fun h => ?_) (fun h => ?_)
      · have k : l[j].1.kind = 1 := by simpa using h
        have hh : hasF l[j].1 = [] := by simp [hasF, k]
        have hm : mostF l[j].1 = 0 := by simp [mostF, k]
        refine aw_skip ⟨⟨?_, rfl⟩, .inl k, fun e => by omega⟩
        simp only [go_sem, reduceIte, Nat.reduceEqDiff, Nat.reduceAdd, Nat.reduceMul, Nat.reduceSub, Nat.reduceLeDiff, Nat.reduceLT, reduceCtorEq, hh, hm]
      have k1 : ¬ l[j].1.kind = 1 := by simpa using h
      refine aw_mid (fun f' G' => FSub [(80, .bool (decide (l[j].1.kind = 2) || decide (l[j].1.kind = 6))), (77, .int .i64 l[j].1.kind), (11, .str []), (12, .int .i64 0), (10, .ptr b10 0), (71, .int .i64 j), (70, .int .i64 l.length), (69, .sl (l.map eAt) nl t)] f' ∧ G' = (b10, .vars (cAt l[j])) :: G) ?_ ?_
      · refine aw_sr rfl ?_
        simp only [go_sem, reduceIte, Nat.reduceEqDiff, Nat.reduceAdd, Nat.reduceMul, Nat.reduceSub, Nat.reduceLeDiff, Nat.reduceLT, reduceCtorEq]
        refine aw_if rfl (fun h => ?_) (fun h => ?_)
        · refine aw_skip ⟨?_, rfl⟩
          simp only [go_sem, reduceIte, Nat.reduceEqDiff, Nat.reduceAdd, Nat.reduceMul, Nat.reduceSub, Nat.reduceLeDiff, Nat.reduceLT, reduceCtorEq, h, Bool.true_or]
        · refine aw_rg rfl ?_
          simp only [go_sem, reduceIte, Nat.reduceEqDiff, Nat.reduceAdd, Nat.reduceMul, Nat.reduceSub, Nat.reduceLeDiff, Nat.reduceLT, reduceCtorEq, h, Bool.false_or]
          refine ⟨?_, rfl⟩
          simp only [go_sem, reduceIte, Nat.reduceEqDiff, Nat.reduceAdd, Nat.reduceMul, Nat.reduceSub, Nat.reduceLeDiff, Nat.reduceLT, reduceCtorEq]
      rintro f' G' ⟨hf, rfl⟩
      refine AW.of_fsub hf ?_
      refine aw_if rfl (fun h => ?_) (fun h => ?_)
      · have k : l[j].1.kind = 2 ∨ l[j].1.kind = 6 := by simpa using h
        have k3 : ¬ l[j].1.kind = 5 := by omega
        have k4 : ¬ l[j].1.kind = 7 := by omega
        have k5 : ¬ l[j].1.kind = 8 := by omega
        have hh : hasF l[j].1 = [110] := by simp [hasF, k, k3, k4, k5]
        have hm : mostF l[j].1 = 0 := by simp [mostF, k, k3, k4, k5]
        refine aw_rg rfl ?_
        simp only [go_sem, reduceIte, Nat.reduceEqDiff, Nat.reduceAdd, Nat.reduceMul, Nat.reduceSub, Nat.reduceLeDiff, Nat.reduceLT, reduceCtorEq]
        refine ⟨⟨?_, rfl⟩, .inr (.inl k), fun e => by omega⟩
        simp only [go_sem, reduceIte, Nat.reduceEqDiff, Nat.reduceAdd, Nat.reduceMul, Nat.reduceSub, Nat.reduceLeDiff, Nat.reduceLT, reduceCtorEq, hh, hm]
      have k2 : ¬ (l[j].1.kind = 2 ∨ l[j].1.kind = 6) := by
        intro e
        have h' : decide (l[j].1.kind = 2) = false ∧ decide (l[j].1.kind = 6) = false := by simpa using h
        simp only [decide_eq_false_iff_not] at h'
        omega
      refine aw_sr rfl ?_
      simp only [go_sem, reduceIte, Nat.reduceEqDiff, Nat.reduceAdd, Nat.reduceMul, Nat.reduceSub, Nat.reduceLeDiff, Nat.reduceLT, reduceCtorEq]
      refine aw_if rfl (fun h => ?_) (fun h => ?_)
      · have k : l[j].1.kind = 3 := by simpa using h
        refine aw_sr rfl ?_
        simp only [go_sem, reduceIte, Nat.reduceEqDiff, Nat.reduceAdd, Nat.reduceMul, Nat.reduceSub, Nat.reduceLeDiff, Nat.reduceLT, reduceCtorEq]
        refine aw_if rfl (fun h => ?_) (fun h => ?_)
        · have hn : l[j].1.num = 1 := by simpa using h
          have hh : hasF l[j].1 = [110] := by simp [hasF, k, hn]
          have hm : mostF l[j].1 = 0 := by simp [mostF, k, hn]
          refine aw_rg rfl ?_
          simp only [go_sem, reduceIte, Nat.reduceEqDiff, Nat.reduceAdd, Nat.reduceMul, Nat.reduceSub, Nat.reduceLeDiff, Nat.reduceLT, reduceCtorEq]
          refine ⟨⟨?_, rfl⟩, .inr (.inr (.inl k)), fun e => by omega⟩
          simp only [go_sem, reduceIte, Nat.reduceEqDiff, Nat.reduceAdd, Nat.reduceMul, Nat.reduceSub, Nat.reduceLeDiff, Nat.reduceLT, reduceCtorEq, hh, hm]
        · have hn : ¬ l[j].1.num = 1 := by simpa using h
          have hh : hasF l[j].1 = [] := by simp [hasF, k, hn]
          have hm : mostF l[j].1 = 0 := by simp [mostF, k, hn]
          refine aw_skip ⟨⟨?_, rfl⟩, .inr (.inr (.inl k)), fun e => by omega⟩
          simp only [go_sem, reduceIte, Nat.reduceEqDiff, Nat.reduceAdd, Nat.reduceMul, Nat.reduceSub, Nat.reduceLeDiff, Nat.reduceLT, reduceCtorEq, hh, hm]
      have k3 : ¬ l[j].1.kind = 3 := by simpa using h
      refine aw_sr rfl ?_
      simp only [go_sem, reduceIte, Nat.reduceEqDiff, Nat.reduceAdd, Nat.reduceMul, Nat.reduceSub, Nat.reduceLeDiff, Nat.reduceLT, reduceCtorEq]
      refine aw_if rfl (fun h => ?_) (fun h => ?_)
      · have k : l[j].1.kind = 4 := by simpa using h
        have hh : hasF l[j].1 = [116] := by simp [hasF, k]
        have hm : mostF l[j].1 = 0 := by simp [mostF, k]
        refine aw_rg rfl ?_
        simp only [go_sem, reduceIte, Nat.reduceEqDiff, Nat.reduceAdd, Nat.reduceMul, Nat.reduceSub, Nat.reduceLeDiff, Nat.reduceLT, reduceCtorEq]
        refine ⟨⟨?_, rfl⟩, .inr (.inr (.inr (.inl k))), fun e => by omega⟩
        simp only [go_sem, reduceIte, Nat.reduceEqDiff, Nat.reduceAdd, Nat.reduceMul, Nat.reduceSub, Nat.reduceLeDiff, Nat.reduceLT, reduceCtorEq, hh, hm]
      have k4 : ¬ l[j].1.kind = 4 := by simpa using h
      refine aw_sr rfl ?_
      simp only [go_sem, reduceIte, Nat.reduceEqDiff, Nat.reduceAdd, Nat.reduceMul, Nat.reduceSub, Nat.reduceLeDiff, Nat.reduceLT, reduceCtorEq]
      refine aw_if rfl (fun h => ?_) (fun h => ?_)
      · have k : l[j].1.kind = 5 := by simpa using h
        refine aw_seq fun K7 hK7 => ?_
        refine aw_sr rfl ?_
        simp only [go_sem, reduceIte, Nat.reduceEqDiff, Nat.reduceAdd, Nat.reduceMul, Nat.reduceSub, Nat.reduceLeDiff, Nat.reduceLT, reduceCtorEq]
        refine aw_if rfl (fun h => ?_) (fun h => ?_)
        · have ht : l[j].1.text = [] := by simpa using h
          refine aw_sr rfl ?_
          simp only [go_sem, reduceIte, Nat.reduceEqDiff, Nat.reduceAdd, Nat.reduceMul, Nat.reduceSub, Nat.reduceLeDiff, Nat.reduceLT, reduceCtorEq]
          refine aw_ret ⟨trivial, _, rfl, ?_, sub_tail hb10⟩
          rw [hbadr (by simp [nodeV, k, ht])]
          exact Vle.refl _
        · have ht : ¬ l[j].1.text = [] := by simpa using h
          refine aw_skip (hK7 _ _ ?_)
          have hh : hasF l[j].1 = [116] := by simp [hasF, k]
          have hm : mostF l[j].1 = 400 := by simp [mostF, k]
          refine aw_rg rfl ?_
          simp only [go_sem, reduceIte, Nat.reduceEqDiff, Nat.reduceAdd, Nat.reduceMul, Nat.reduceSub, Nat.reduceLeDiff, Nat.reduceLT, reduceCtorEq]
          refine ⟨⟨?_, rfl⟩, .inr (.inr (.inr (.inr (.inl k)))), fun _ => ht⟩
          simp only [go_sem, reduceIte, Nat.reduceEqDiff, Nat.reduceAdd, Nat.reduceMul, Nat.reduceSub, Nat.reduceLeDiff, Nat.reduceLT, reduceCtorEq, hh, hm]
      have k5 : ¬ l[j].1.kind = 5 := by simpa using h
      refine aw_sr rfl ?_
      simp only [go_sem, reduceIte, Nat.reduceEqDiff, Nat.reduceAdd, Nat.reduceMul, Nat.reduceSub, Nat.reduceLeDiff, Nat.reduceLT, reduceCtorEq]
      refine aw_if rfl (fun h => ?_) (fun h => ?_)
      · have k : l[j].1.kind = 7 := by simpa using h
        have hh : hasF l[j].1 = [110, 116] := by simp [hasF, k]
        have hm : mostF l[j].1 = 400 := by simp [mostF, k]
        refine aw_rg rfl ?_
        simp only [go_sem, reduceIte, Nat.reduceEqDiff, Nat.reduceAdd, Nat.reduceMul, Nat.reduceSub, Nat.reduceLeDiff, Nat.reduceLT, reduceCtorEq]
        refine ⟨⟨?_, rfl⟩, .inr (.inr (.inr (.inr (.inr (.inl k))))), fun e => by omega⟩
        simp only [go_sem, reduceIte, Nat.reduceEqDiff, Nat.reduceAdd, Nat.reduceMul, Nat.reduceSub, Nat.reduceLeDiff, Nat.reduceLT, reduceCtorEq, hh, hm]
      have k7 : ¬ l[j].1.kind = 7 := by simpa using h
      refine aw_sr rfl ?_
      simp only [go_sem, reduceIte, Nat.reduceEqDiff, Nat.reduceAdd, Nat.reduceMul, Nat.reduceSub, Nat.reduceLeDiff, Nat.reduceLT, reduceCtorEq]
      refine aw_if rfl (fun h => ?_) (fun h => ?_)
      · have k : l[j].1.kind = 8 := by simpa using h
        have hh : hasF l[j].1 = [] := by simp [hasF, k]
        have hm : mostF l[j].1 = 1 := by simp [mostF, k]
        refine aw_rg rfl ?_
        simp only [go_sem, reduceIte, Nat.reduceEqDiff, Nat.reduceAdd, Nat.reduceMul, Nat.reduceSub, Nat.reduceLeDiff, Nat.reduceLT, reduceCtorEq]
        refine ⟨⟨?_, rfl⟩, .inr (.inr (.inr (.inr (.inr (.inr k))))), fun e => by omega⟩
        simp only [go_sem, reduceIte, Nat.reduceEqDiff, Nat.reduceAdd, Nat.reduceMul, Nat.reduceSub, Nat.reduceLeDiff, Nat.reduceLT, reduceCtorEq, hh, hm]
      have k8 : ¬ l[j].1.kind = 8 := by simpa using h
      refine aw_sr rfl ?_
      simp only [go_sem, reduceIte, Nat.reduceEqDiff, Nat.reduceAdd, Nat.reduceMul, Nat.reduceSub, Nat.reduceLeDiff, Nat.reduceLT, reduceCtorEq]
      refine aw_ret ⟨trivial, _, rfl, ?_, sub_tail hb10⟩
      rw [hbadr (by simp [nodeV, k1, k2, k3, k4, k5, k7, k8])]
      exact Vle.refl _
    · rintro f' G' ⟨⟨hf, rfl⟩, hk, hk5⟩
      have hnode := badN_node hk hk5 hal
      refine AW.of_fsub hf ?_
      have hhl : (hasF l[j].1).length ≤ 1048576 := by unfold hasF; (repeat' split) <;> simp
      refine aw_sr rfl ?_
      simp only [go_sem, reduceIte, Nat.reduceEqDiff, Nat.reduceAdd, Nat.reduceMul, Nat.reduceSub, Nat.reduceLeDiff, Nat.reduceLT, reduceCtorEq]
      refine goA_q (q_ContainsB _ _ _ _ hhl) ?_
      simp only [go_sem, reduceIte, Nat.reduceEqDiff, Nat.reduceAdd, Nat.reduceMul, Nat.reduceSub, Nat.reduceLeDiff, Nat.reduceLT, reduceCtorEq]
      refine goA_q (q_ContainsB _ _ _ _ hhl) ?_
      simp only [go_sem, reduceIte, Nat.reduceEqDiff, Nat.reduceAdd, Nat.reduceMul, Nat.reduceSub, Nat.reduceLeDiff, Nat.reduceLT, reduceCtorEq]
      refine aw_sr rfl ?_
      simp only [go_sem, reduceIte, Nat.reduceEqDiff, Nat.reduceAdd, Nat.reduceMul, Nat.reduceSub, Nat.reduceLeDiff, Nat.reduceLT, reduceCtorEq]
      refine aw_if rfl (fun h => ?_) (fun h => ?_)
      · refine aw_sr rfl ?_
        simp only [go_sem, reduceIte, Nat.reduceEqDiff, Nat.reduceAdd, Nat.reduceMul, Nat.reduceSub, Nat.reduceLeDiff, Nat.reduceLT, reduceCtorEq]
        refine aw_ret ⟨trivial, _, rfl, ?_, sub_tail hb10⟩
        have hx : badN l[j].1 = true := by simpa [badN] using h
        rw [hbadr (by rw [hnode] at hx; simpa using hx)]
        exact Vle.refl _
      · have hx : badN l[j].1 = false := by simpa [badN] using h
        refine aw_skip ⟨(), all_take_next he hj (by rw [hnode] at hx; simpa using hx), ?_, sub_tail hb10⟩
        simp only [go_sem, reduceIte, Nat.reduceEqDiff, Nat.reduceAdd, Nat.reduceMul, Nat.reduceSub, Nat.reduceLeDiff, Nat.reduceLT, reduceCtorEq]
  · intro _ he
    rw [List.take_length, hall (fun x _ => nodeV x), all_node] at he
    refine hK5 _ _ ?_
    refine aw_sr rfl ?_
    simp only [go_sem, reduceIte, Nat.reduceEqDiff, Nat.reduceAdd, Nat.reduceMul, Nat.reduceSub, Nat.reduceLeDiff, Nat.reduceLT, reduceCtorEq]
    refine aw_ret ⟨trivial, _, rfl, ?_, fun _ _ h => h⟩
    rw [checkV, if_neg hcl, if_neg (by rw [he]; simp)]
    exact Vle.refl _
end Go.Proofs.YtlgfffngojlffaaGreat

set_option linter.unusedSimpArgs false
set_option linter.unusedVariables false
namespace Go.Proofs.YtlgfffngojlffaaGreat
open Go.Proofs.YtlgfffngojlffaaGreatV
set_option maxHeartbeats 400000
set_option maxRecDepth 100000
namespace valueWritten
end valueWritten
end Go.Proofs.YtlgfffngojlffaaGreat

/- ValueOf: as Read. No conditions. -/
set_option linter.unusedSimpArgs false
set_option linter.unusedVariables false
namespace Go.Proofs.YtlgfffngojlffaaGreat
open Go.Proofs.YtlgfffngojlffaaGreatV
set_option maxHeartbeats 400000
set_option maxRecDepth 100000
theorem readF_ok (b : List UInt8) : OkVal (readF b).1 := by
  unfold readF
  split
  · rename_i h; exact h.choose_spec.1.1.ok
  · exact Fine.zero.ok
namespace valueRead
end valueRead
end Go.Proofs.YtlgfffngojlffaaGreat

/- Letters: what is wrong with one. No conditions. -/
set_option linter.unusedSimpArgs false
set_option linter.unusedVariables false
namespace Go.Proofs.YtlgfffngojlffaaGreat
open Go.Proofs.YtlgfffngojlffaaGreatV
set_option maxHeartbeats 400000
set_option maxRecDepth 100000
/-- A letter: its kind, from whom, to whom, number, text, value. -/
abbrev Lt := Int × Int × Int × Int × List UInt8 × Val
abbrev cLt (x : Lt) : List V := [.int .i64 x.1, .int .i64 x.2.1, .int .i64 x.2.2.1, .int .i64 x.2.2.2.1, .str x.2.2.2.2.1, .int .i64 x.2.2.2.2.2.kind, .int .i64 x.2.2.2.2.2.num, .str x.2.2.2.2.2.text, .sl (x.2.2.2.2.2.args.map eVal) x.2.2.2.2.2.nl .no]
def zeroV (v : Val) : Bool := decide (v.kind = 0) && decide (v.num = 0) && decide (v.text = []) && decide ((v.args.length : Int) = 0)
/-- What no letter may be, but for its length and its value. -/
def BadL (x : Lt) : Prop := x.2.1 < 0 ∨ x.2.2.1 < 0 ∨ x.1 < 1 ∨ 5 < x.1 ∨ (¬ x.1 = 2 ∧ ¬ x.2.2.2.1 = 0) ∨ x.2.2.2.1 < 0 ∨ 2 < x.2.2.2.1 ∨ (¬ x.1 = 2 ∧ ¬ x.1 = 5 ∧ ¬ x.2.2.2.2.1 = [])
instance (x : Lt) : Decidable (BadL x) := by unfold BadL; exact inferInstance
def checkL (x : Lt) : Int := if 4000 < x.2.2.2.2.1.length then 2 else if BadL x then 3 else if x.1 = 1 then checkV x.2.2.2.2.2 else if zeroV x.2.2.2.2.2 = false then 3 else 0
theorem q_valzero (v : Val) : Quiet Tryz.prog 99 [.agg (cV v)] (.bool (zeroV v)) := by
  refine Quiet.weak fun G => ?_
  refine acall_body (rs := [.tmp 2]) Tryz.func99 rfl rfl Tryz.ntmps99 (by kernel_rfl) (Nat.le_of_ble_eq_true rfl) ?_
  refine aw_sr rfl ?_  -- r0 @value.go:221
  simp only [go_sem, reduceIte, Nat.reduceEqDiff, Nat.reduceAdd, Nat.reduceMul, Nat.reduceSub, Nat.reduceLeDiff, Nat.reduceLT, reduceCtorEq]
  intro b1 hb1
  refine aw_box1 hb1 fun B1 hs1 h1 => ?_
  have hsB := hs1
  refine aw_sr rfl ?_  -- r1 @value.go:222
  simp only [go_sem, reduceIte, Nat.reduceEqDiff, Nat.reduceAdd, Nat.reduceMul, Nat.reduceSub, Nat.reduceLeDiff, Nat.reduceLT, reduceCtorEq, h1]
  exact aw_ret ⟨trivial, _, rfl, Vle.refl _, hsB⟩
theorem q_none (v : Val) : Quiet Tryz.prog 83 [.agg (cV v)] (.bool (zeroV v)) := by
  refine Quiet.weak fun G => ?_
  refine acall_body (rs := [.tmp 2]) Tryz.func83 rfl rfl Tryz.ntmps83 (by kernel_rfl) (Nat.le_of_ble_eq_true rfl) ?_
  refine aw_sr rfl ?_  -- r0 @value.go:195
  simp only [go_sem, reduceIte, Nat.reduceEqDiff, Nat.reduceAdd, Nat.reduceMul, Nat.reduceSub, Nat.reduceLeDiff, Nat.reduceLT, reduceCtorEq]
  intro b1 hb1
  refine aw_box1 hb1 fun B1 hs1 h1 => ?_
  have hsB := hs1
  refine aw_sr rfl ?_  -- r1 @value.go:195
  simp only [go_sem, reduceIte, Nat.reduceEqDiff, Nat.reduceAdd, Nat.reduceMul, Nat.reduceSub, Nat.reduceLeDiff, Nat.reduceLT, reduceCtorEq, h1]
  exact aw_ret ⟨trivial, _, rfl, Vle.refl _, hsB⟩
theorem q_LetterFault (x : Lt) (ho : oVal x.2.2.2.2.2) (hs : x.2.2.2.2.1.length ≤ bulk) : Quiet Tryz.prog 48 [.agg (cLt x)] (.int .i64 (checkL x)) := by
  obtain ⟨k, f, t, n, s, v⟩ := x
  have hs' : s.length ≤ 1048576 := hs
  refine Quiet.weak fun G => ?_
  refine acall_body (rs := [.tmp 2]) Tryz.func48 rfl rfl Tryz.ntmps48 (by kernel_rfl) (Nat.le_of_ble_eq_true rfl) ?_
  refine aw_sr rfl ?_  -- r0 @value.go:198
  simp only [go_sem, reduceIte, Nat.reduceEqDiff, Nat.reduceAdd, Nat.reduceMul, Nat.reduceSub, Nat.reduceLeDiff, Nat.reduceLT, reduceCtorEq]
  intro b1 hb1
  refine aw_box1 hb1 fun B1 hs1 h1 => ?_
  have hsB := hs1
  have hE : checkL (k, f, t, n, s, v) = if 4000 < s.length then 2 else if BadL (k, f, t, n, s, v) then 3 else if k = 1 then checkV v else if zeroV v = false then 3 else 0 := rfl
  refine aw_seq fun K1 hK1 => ?_
  refine aw_block ?_  -- 0
  refine aw_sr rfl ?_  -- r1 @value.go:200
  simp only [go_sem, reduceIte, Nat.reduceEqDiff, Nat.reduceAdd, Nat.reduceMul, Nat.reduceSub, Nat.reduceLeDiff, Nat.reduceLT, reduceCtorEq, h1]
  refine aw_if rfl (fun h => ?_) (fun h => ?_)
  · rw [decide_eq_true_eq] at h
    rw [if_pos (by omega)] at hE
    refine aw_sr rfl ?_  -- r2 @value.go:201
    simp only [go_sem, reduceIte, Nat.reduceEqDiff, Nat.reduceAdd, Nat.reduceMul, Nat.reduceSub, Nat.reduceLeDiff, Nat.reduceLT, reduceCtorEq]
    exact aw_ret ⟨trivial, _, rfl, by rw [hE]; exact Vle.refl _, hsB⟩
  rw [decide_eq_false_iff_not] at h
  rw [if_neg (by omega)] at hE
  refine aw_sr rfl ?_  -- r3 @value.go:202
  simp only [go_sem, reduceIte, Nat.reduceEqDiff, Nat.reduceAdd, Nat.reduceMul, Nat.reduceSub, Nat.reduceLeDiff, Nat.reduceLT, reduceCtorEq, h1]
  refine aw_if rfl (fun h2 => ?_) (fun h2 => ?_)
  · simp only [Bool.or_eq_true, decide_eq_true_eq] at h2
    rw [if_pos (by unfold BadL; simp only; omega)] at hE
    refine aw_sr rfl ?_  -- r4 @value.go:203
    simp only [go_sem, reduceIte, Nat.reduceEqDiff, Nat.reduceAdd, Nat.reduceMul, Nat.reduceSub, Nat.reduceLeDiff, Nat.reduceLT, reduceCtorEq]
    exact aw_ret ⟨trivial, _, rfl, by rw [hE]; exact Vle.refl _, hsB⟩
  simp only [Bool.or_eq_false_iff, decide_eq_false_iff_not] at h2
  refine aw_sr rfl ?_  -- r5 @value.go:204
  simp only [go_sem, reduceIte, Nat.reduceEqDiff, Nat.reduceAdd, Nat.reduceMul, Nat.reduceSub, Nat.reduceLeDiff, Nat.reduceLT, reduceCtorEq, h1]
  refine aw_if rfl (fun h3 => ?_) (fun h3 => ?_)
  · simp only [Bool.or_eq_true, Bool.and_eq_true, Bool.not_eq_true', decide_eq_false_iff_not, decide_eq_true_eq] at h3
    rw [if_pos (by unfold BadL; simp only; omega)] at hE
    refine aw_sr rfl ?_  -- r6 @value.go:205
    simp only [go_sem, reduceIte, Nat.reduceEqDiff, Nat.reduceAdd, Nat.reduceMul, Nat.reduceSub, Nat.reduceLeDiff, Nat.reduceLT, reduceCtorEq]
    exact aw_ret ⟨trivial, _, rfl, by rw [hE]; exact Vle.refl _, hsB⟩
  simp only [Bool.or_eq_false_iff, Bool.and_eq_false_iff, Bool.not_eq_false', decide_eq_false_iff_not, decide_eq_true_eq] at h3
  refine aw_sr rfl ?_  -- r7 @value.go:206
  simp only [go_sem, reduceIte, Nat.reduceEqDiff, Nat.reduceAdd, Nat.reduceMul, Nat.reduceSub, Nat.reduceLeDiff, Nat.reduceLT, reduceCtorEq, h1]
  refine aw_if rfl (fun h4 => ?_) (fun h4 => ?_)
  · simp only [Bool.or_eq_true, Bool.and_eq_true, Bool.not_eq_true', decide_eq_false_iff_not, decide_eq_true_eq] at h4
    rw [if_pos (by unfold BadL; simp only; exact .inr (.inr (.inr (.inr (.inr (.inr (.inr ⟨h4.1.1, h4.1.2, h4.2⟩)))))))] at hE
    refine aw_sr rfl ?_  -- r8 @value.go:207
    simp only [go_sem, reduceIte, Nat.reduceEqDiff, Nat.reduceAdd, Nat.reduceMul, Nat.reduceSub, Nat.reduceLeDiff, Nat.reduceLT, reduceCtorEq]
    exact aw_ret ⟨trivial, _, rfl, by rw [hE]; exact Vle.refl _, hsB⟩
  simp only [Bool.or_eq_false_iff, Bool.and_eq_false_iff, Bool.not_eq_false', decide_eq_false_iff_not, decide_eq_true_eq] at h4
  have hb : ¬ BadL (k, f, t, n, s, v) := by
    unfold BadL
    simp only
    intro hq
    rcases hq with q | q | q | q | ⟨q, q'⟩ | q | q | ⟨q, q', q''⟩
    · omega
    · omega
    · omega
    · omega
    · omega
    · omega
    · omega
    · rcases h4 with (h4 | h4) | h4
      · exact h4 q
      · exact h4 q'
      · exact h4 q''
  rw [if_neg hb] at hE
  refine aw_sr rfl ?_  -- r9 @value.go:208
  simp only [go_sem, reduceIte, Nat.reduceEqDiff, Nat.reduceAdd, Nat.reduceMul, Nat.reduceSub, Nat.reduceLeDiff, Nat.reduceLT, reduceCtorEq, h1]
  refine aw_if rfl (fun h5 => ?_) (fun h5 => ?_)
  · rw [decide_eq_true_eq] at h5
    rw [if_pos h5] at hE
    refine aw_sr rfl ?_  -- r10 @value.go:209
    simp only [go_sem, reduceIte, Nat.reduceEqDiff, Nat.reduceAdd, Nat.reduceMul, Nat.reduceSub, Nat.reduceLeDiff, Nat.reduceLT, reduceCtorEq, h1]
    refine goA_q (q_ValueFault v ho) ?_
    simp only [go_sem, reduceIte, Nat.reduceEqDiff, Nat.reduceAdd, Nat.reduceMul, Nat.reduceSub, Nat.reduceLeDiff, Nat.reduceLT, reduceCtorEq, h1]
    exact aw_ret ⟨trivial, _, rfl, by rw [hE]; exact Vle.refl _, hsB⟩
  rw [decide_eq_false_iff_not] at h5
  rw [if_neg h5] at hE
  refine aw_sr rfl ?_  -- r11 @value.go:210
  simp only [go_sem, reduceIte, Nat.reduceEqDiff, Nat.reduceAdd, Nat.reduceMul, Nat.reduceSub, Nat.reduceLeDiff, Nat.reduceLT, reduceCtorEq, h1]
  refine goA_q (q_none v) ?_
  simp only [go_sem, reduceIte, Nat.reduceEqDiff, Nat.reduceAdd, Nat.reduceMul, Nat.reduceSub, Nat.reduceLeDiff, Nat.reduceLT, reduceCtorEq, h1]
  refine aw_if rfl (fun h6 => ?_) (fun h6 => ?_)
  · rw [if_pos (by simpa using h6)] at hE
    refine aw_sr rfl ?_  -- r12 @value.go:211
    simp only [go_sem, reduceIte, Nat.reduceEqDiff, Nat.reduceAdd, Nat.reduceMul, Nat.reduceSub, Nat.reduceLeDiff, Nat.reduceLT, reduceCtorEq]
    exact aw_ret ⟨trivial, _, rfl, by rw [hE]; exact Vle.refl _, hsB⟩
  rw [if_neg (by simpa using h6)] at hE
  refine aw_skip (hK1 _ _ ?_)
  refine aw_sr rfl ?_  -- r13 @value.go:213
  simp only [go_sem, reduceIte, Nat.reduceEqDiff, Nat.reduceAdd, Nat.reduceMul, Nat.reduceSub, Nat.reduceLeDiff, Nat.reduceLT, reduceCtorEq]
  exact aw_ret ⟨trivial, _, rfl, by rw [hE]; exact Vle.refl _, hsB⟩
theorem q_CheckLetter (x : Lt) (ho : oVal x.2.2.2.2.2) (hs : x.2.2.2.2.1.length ≤ bulk) : Quiet Tryz.prog 91 [.agg (cLt x)] (.int .i64 (checkL x)) := by
  obtain ⟨k, f, t, n, s, v⟩ := x
  have hs' : s.length ≤ 1048576 := hs
  refine Quiet.weak fun G => ?_
  refine acall_body (rs := [.tmp 2]) Tryz.func91 rfl rfl Tryz.ntmps91 (by kernel_rfl) (Nat.le_of_ble_eq_true rfl) ?_
  refine aw_sr rfl ?_  -- r0 @value.go:226
  simp only [go_sem, reduceIte, Nat.reduceEqDiff, Nat.reduceAdd, Nat.reduceMul, Nat.reduceSub, Nat.reduceLeDiff, Nat.reduceLT, reduceCtorEq]
  intro b1 hb1
  refine aw_box1 hb1 fun B1 hs1 h1 => ?_
  have hsB := hs1
  have hE : checkL (k, f, t, n, s, v) = if 4000 < s.length then 2 else if BadL (k, f, t, n, s, v) then 3 else if k = 1 then checkV v else if zeroV v = false then 3 else 0 := rfl
  refine aw_seq fun K1 hK1 => ?_
  refine aw_sr rfl ?_  -- r1 @value.go:227
  simp only [go_sem, reduceIte, Nat.reduceEqDiff, Nat.reduceAdd, Nat.reduceMul, Nat.reduceSub, Nat.reduceLeDiff, Nat.reduceLT, reduceCtorEq, h1]
  refine aw_if rfl (fun h => ?_) (fun h => ?_)
  · rw [decide_eq_true_eq] at h
    rw [if_pos (by omega)] at hE
    refine aw_sr rfl ?_  -- r2 @value.go:228
    simp only [go_sem, reduceIte, Nat.reduceEqDiff, Nat.reduceAdd, Nat.reduceMul, Nat.reduceSub, Nat.reduceLeDiff, Nat.reduceLT, reduceCtorEq]
    exact aw_ret ⟨trivial, _, rfl, by rw [hE]; exact Vle.refl _, hsB⟩
  rw [decide_eq_false_iff_not] at h
  rw [if_neg (by omega)] at hE
  refine aw_skip (hK1 _ _ ?_)
  refine aw_seq fun K2 hK2 => ?_
  refine aw_sr rfl ?_  -- r3 @value.go:230
  simp only [go_sem, reduceIte, Nat.reduceEqDiff, Nat.reduceAdd, Nat.reduceMul, Nat.reduceSub, Nat.reduceLeDiff, Nat.reduceLT, reduceCtorEq, h1]
  refine aw_if rfl (fun h2 => ?_) (fun h2 => ?_)
  · simp only [Bool.or_eq_true, decide_eq_true_eq] at h2
    rw [if_pos (by unfold BadL; simp only; omega)] at hE
    refine aw_sr rfl ?_  -- r4 @value.go:231
    simp only [go_sem, reduceIte, Nat.reduceEqDiff, Nat.reduceAdd, Nat.reduceMul, Nat.reduceSub, Nat.reduceLeDiff, Nat.reduceLT, reduceCtorEq]
    exact aw_ret ⟨trivial, _, rfl, by rw [hE]; exact Vle.refl _, hsB⟩
  simp only [Bool.or_eq_false_iff, decide_eq_false_iff_not] at h2
  refine aw_skip (hK2 _ _ ?_)
  refine aw_sr rfl ?_  -- r5 @value.go:233
  simp only [go_sem, reduceIte, Nat.reduceEqDiff, Nat.reduceAdd, Nat.reduceMul, Nat.reduceSub, Nat.reduceLeDiff, Nat.reduceLT, reduceCtorEq, h1]
  refine aw_seq fun K3 hK3 => ?_
  refine aw_block ?_  -- 0
  refine aw_mid (fun f' G' => FSub [(24, .bool (decide (BadL (k, f, t, n, s, v)))), (1, .ptr b1 0)] f' ∧ G' = B1) ?_ ?_
  · -- 4 ways
    refine aw_sr rfl ?_  -- r6 @value.go:235
    simp only [go_sem, reduceIte, Nat.reduceEqDiff, Nat.reduceAdd, Nat.reduceMul, Nat.reduceSub, Nat.reduceLeDiff, Nat.reduceLT, reduceCtorEq, h1]
    refine aw_if rfl (fun h3 => ?_) (fun h3 => ?_)
    · refine aw_skip ⟨⟨?_, rfl⟩, rfl⟩
      show some (V.bool _) = some (V.bool _)
      refine congrArg (fun z => some (V.bool z)) ?_
      rw [h3, decide_eq_true]
      simp only [Bool.or_eq_true, decide_eq_true_eq] at h3
      unfold BadL; simp only; omega
    · refine aw_sr rfl ?_  -- r7 @value.go:235
      simp only [go_sem, reduceIte, Nat.reduceEqDiff, Nat.reduceAdd, Nat.reduceMul, Nat.reduceSub, Nat.reduceLeDiff, Nat.reduceLT, reduceCtorEq, h1]
      refine aw_if rfl (fun h4 => ?_) (fun h4 => ?_)
      · refine aw_skip ⟨⟨?_, rfl⟩, rfl⟩
        show some (V.bool _) = some (V.bool _)
        refine congrArg (fun z => some (V.bool z)) ?_
        rw [h4, decide_eq_true]
        simp only [Bool.and_eq_true, Bool.not_eq_true', Bool.or_eq_false_iff, decide_eq_false_iff_not, decide_eq_true_eq] at h4
        unfold BadL; simp only
        exact .inr (.inr (.inr (.inr (.inr (.inr (.inr ⟨h4.2.1, h4.2.2, h4.1⟩))))))
      · refine aw_sr rfl ?_  -- r8 @value.go:235
        simp only [go_sem, reduceIte, Nat.reduceEqDiff, Nat.reduceAdd, Nat.reduceMul, Nat.reduceSub, Nat.reduceLeDiff, Nat.reduceLT, reduceCtorEq, h1]
        refine aw_if rfl (fun h5 => ?_) (fun h5 => ?_)
        · refine aw_skip ⟨⟨?_, rfl⟩, rfl⟩
          show some (V.bool _) = some (V.bool _)
          refine congrArg (fun z => some (V.bool z)) ?_
          rw [h5, decide_eq_true]
          simp only [Bool.and_eq_true, Bool.not_eq_true', decide_eq_false_iff_not, decide_eq_true_eq] at h5
          unfold BadL; simp only; omega
        · refine aw_rg rfl ?_  -- r9 @value.go:235
          simp only [go_sem, reduceIte, Nat.reduceEqDiff, Nat.reduceAdd, Nat.reduceMul, Nat.reduceSub, Nat.reduceLeDiff, Nat.reduceLT, reduceCtorEq, h1]
          refine ⟨⟨?_, rfl⟩, rfl⟩
          show some (V.bool _) = some (V.bool _)
          refine congrArg (fun z => some (V.bool z)) ?_
          simp only [Bool.or_eq_false_iff, Bool.and_eq_false_iff, Bool.not_eq_false', Bool.or_eq_true, decide_eq_false_iff_not, decide_eq_true_eq] at h3 h4 h5
          rw [Bool.eq_iff_iff]
          simp only [Bool.or_eq_true, decide_eq_true_eq]
          refine ⟨fun q => by unfold BadL; simp only; omega, fun q => ?_⟩
          unfold BadL at q
          simp only at q
          rcases q with q | q | q | q | ⟨q, q'⟩ | q | q | ⟨q, q', q''⟩
          · omega
          · omega
          · omega
          · omega
          · omega
          · omega
          · omega
          · rcases h4 with h4 | h4
            · exact absurd q'' h4
            · omega
  intro f' G' ⟨hf, hg⟩
  rw [hg]
  refine AW.of_fsub hf ?_
  refine aw_if rfl (fun h => ?_) (fun h => ?_)
  · rw [decide_eq_true_eq] at h
    rw [if_pos h] at hE
    refine aw_sr rfl ?_  -- r10 @value.go:236
    simp only [go_sem, reduceIte, Nat.reduceEqDiff, Nat.reduceAdd, Nat.reduceMul, Nat.reduceSub, Nat.reduceLeDiff, Nat.reduceLT, reduceCtorEq]
    exact aw_ret ⟨trivial, _, rfl, by rw [hE]; exact Vle.refl _, hsB⟩
  rw [decide_eq_false_iff_not] at h
  rw [if_neg h] at hE
  refine aw_sr rfl ?_  -- r11 @value.go:237
  simp only [go_sem, reduceIte, Nat.reduceEqDiff, Nat.reduceAdd, Nat.reduceMul, Nat.reduceSub, Nat.reduceLeDiff, Nat.reduceLT, reduceCtorEq, h1]
  refine aw_if rfl (fun h5 => ?_) (fun h5 => ?_)
  · rw [decide_eq_true_eq] at h5
    rw [if_pos h5] at hE
    refine aw_sr rfl ?_  -- r12 @value.go:238
    simp only [go_sem, reduceIte, Nat.reduceEqDiff, Nat.reduceAdd, Nat.reduceMul, Nat.reduceSub, Nat.reduceLeDiff, Nat.reduceLT, reduceCtorEq, h1]
    refine goA_q (q_valCheck v ho) ?_
    simp only [go_sem, reduceIte, Nat.reduceEqDiff, Nat.reduceAdd, Nat.reduceMul, Nat.reduceSub, Nat.reduceLeDiff, Nat.reduceLT, reduceCtorEq, h1]
    exact aw_ret ⟨trivial, _, rfl, by rw [hE]; exact Vle.refl _, hsB⟩
  rw [decide_eq_false_iff_not] at h5
  rw [if_neg h5] at hE
  refine aw_sr rfl ?_  -- r13 @value.go:239
  simp only [go_sem, reduceIte, Nat.reduceEqDiff, Nat.reduceAdd, Nat.reduceMul, Nat.reduceSub, Nat.reduceLeDiff, Nat.reduceLT, reduceCtorEq, h1]
  refine goA_q (q_valzero v) ?_
  simp only [go_sem, reduceIte, Nat.reduceEqDiff, Nat.reduceAdd, Nat.reduceMul, Nat.reduceSub, Nat.reduceLeDiff, Nat.reduceLT, reduceCtorEq, h1]
  refine aw_if rfl (fun h6 => ?_) (fun h6 => ?_)
  · rw [if_pos (by simpa using h6)] at hE
    refine aw_sr rfl ?_  -- r14 @value.go:240
    simp only [go_sem, reduceIte, Nat.reduceEqDiff, Nat.reduceAdd, Nat.reduceMul, Nat.reduceSub, Nat.reduceLeDiff, Nat.reduceLT, reduceCtorEq]
    exact aw_ret ⟨trivial, _, rfl, by rw [hE]; exact Vle.refl _, hsB⟩
  rw [if_neg (by simpa using h6)] at hE
  refine aw_skip (hK3 _ _ ?_)
  refine aw_sr rfl ?_  -- r15 @value.go:242
  simp only [go_sem, reduceIte, Nat.reduceEqDiff, Nat.reduceAdd, Nat.reduceMul, Nat.reduceSub, Nat.reduceLeDiff, Nat.reduceLT, reduceCtorEq]
  exact aw_ret ⟨trivial, _, rfl, by rw [hE]; exact Vle.refl _, hsB⟩
end Go.Proofs.YtlgfffngojlffaaGreat

/- Letters as bytes. No conditions. -/
set_option linter.unusedSimpArgs false
set_option linter.unusedVariables false
namespace Go.Proofs.YtlgfffngojlffaaGreat
open Go.Proofs.YtlgfffngojlffaaGreatV
set_option maxHeartbeats 400000
set_option maxRecDepth 100000
/-- What any letter of a statement keeps to. -/
def OkLt (x : Lt) : Prop := (IntKind.i64.min ≤ x.1 ∧ x.1 ≤ IntKind.i64.max) ∧ (IntKind.i64.min ≤ x.2.1 ∧ x.2.1 ≤ IntKind.i64.max) ∧ (IntKind.i64.min ≤ x.2.2.1 ∧ x.2.2.1 ≤ IntKind.i64.max) ∧ (IntKind.i64.min ≤ x.2.2.2.1 ∧ x.2.2.2.1 ≤ IntKind.i64.max) ∧ x.2.2.2.2.1.length ≤ bulk ∧ oVal x.2.2.2.2.2
def tailL (k : Int) (v : Val) : List UInt8 := if k = 1 then encV v else []
/-- A letter as bytes. -/
def encL (x : Lt) : List UInt8 := u8 x.1 :: (natB x.2.1.toNat ++ (natB x.2.2.1.toNat ++ (natB x.2.2.2.1.toNat ++ (textB x.2.2.2.2.1 ++ tailL x.1 x.2.2.2.2.2))))
theorem checkL_good {x : Lt} (h : checkL x = 0) : x.2.2.2.2.1.length ≤ 4000 ∧ ¬ BadL x ∧ (x.1 = 1 → checkV x.2.2.2.2.2 = 0) ∧ (¬ x.1 = 1 → zeroV x.2.2.2.2.2 = true) := by
  unfold checkL at h
  split at h
  · cases h
  · rename_i h1
    split at h
    · cases h
    · rename_i h2
      split at h
      · rename_i h3
        exact ⟨by omega, h2, fun _ => h, fun e => absurd h3 e⟩
      · rename_i h3
        split at h
        · cases h
        · rename_i h4
          exact ⟨by omega, h2, fun e => absurd e h3, fun _ => by simpa using h4⟩
theorem tailL_len {k : Int} {v : Val} (ho : OkVal v) (h : k = 1 → checkV v = 0) : (tailL k v).length ≤ 2000000 := by
  unfold tailL
  split
  · rename_i hk; exact enc_small ho (h hk)
  · simp
theorem a_wletter (base : Heap) (bw : Nat) (x : Lt) (out : List UInt8) (G : Heap) (ho : OkLt x) (hc : checkL x = 0) (hol : out.length ≤ 100000000000) (hG : WOk base bw 1 (bytesV out) G) :
    ACall Tryz.prog 75 [.ptr bw 0, .agg (cLt x)] (fun _ G' => WOk base bw 1 (bytesV (out ++ encL x)) G') G := by
  obtain ⟨k, f, t0, n, s, v⟩ := x
  obtain ⟨o1, o2, o3, o4, o5, o6⟩ := ho
  obtain ⟨c1, c2, c3, c4⟩ := checkL_good hc
  simp only at o1 o2 o3 o4 o5 o6 c1 c2 c3 c4
  have hbad : 0 ≤ f ∧ 0 ≤ t0 ∧ 0 ≤ n := by
    unfold BadL at c2; simp only at c2; omega
  have r2 := i64_range o2
  have r3 := i64_range o3
  have r4 := i64_range o4
  have htl := tailL_len o6.1 c3
  have l1 := natB_len64 (n := f.toNat) (by omega)
  have l2 := natB_len64 (n := t0.toNat) (by omega)
  have l3 := natB_len64 (n := n.toNat) (by omega)
  have l4 := natB_len64 (n := s.length) (by omega)
  have hw1 : IntKind.u64.wrap f = ((f.toNat : Nat) : Int) := by rw [wrap_u64]; omega
  have hw2 : IntKind.u64.wrap t0 = ((t0.toNat : Nat) : Int) := by rw [wrap_u64]; omega
  have hw3 : IntKind.u64.wrap n = ((n.toNat : Nat) : Int) := by rw [wrap_u64]; omega
  refine acall_body (rs := []) Tryz.func75 rfl rfl Tryz.ntmps75 (by kernel_rfl) (Nat.le_of_ble_eq_true rfl) ?_
  refine aw_sr rfl ?_
  simp only [go_sem, reduceIte, Nat.reduceEqDiff, Nat.reduceAdd, Nat.reduceMul, Nat.reduceSub, Nat.reduceLeDiff, Nat.reduceLT, reduceCtorEq]
  intro b3 hb3
  have hp := hG.push (o := .vars (cLt (k, f, t0, n, s, v))) hb3
  have hb3b := sub_none hG.old hb3
  obtain ⟨h0, nl, t, H, hnl, hr, hsb⟩ := hp
  refine AW.of_hsub hsb ?_
  have hgw : hget H bw = some (.vars [.sl (bytesV out) nl t]) := hr.sub _ _ (hget_self _ _ _)
  obtain ⟨n3w, _⟩ := none_cons h0
  have hg3 : hget H b3 = some (.vars (cLt (k, f, t0, n, s, v))) := hr.sub _ _ (by rw [hget_cons_ne (fun e => n3w e.symm), hget_self])
  refine aw_srd [(0,true),(1,true),(2,true),(3,true),(4,true),(5,true),(6,true),(7,true),(8,true),(9,false),(10,true),(11,true),(12,false)] mixed rfl (by kernel_rfl) ?_
  simp only [go_sem, reduceIte, Nat.reduceEqDiff, Nat.reduceAdd, Nat.reduceMul, Nat.reduceSub, Nat.reduceLeDiff, Nat.reduceLT, reduceCtorEq, hgw, hg3, one_u8]
  refine goP_room hr ?_ fun t' H' hr' => ?_
  · exact ⟨rfl, rfl, by decide, wid_bytes _, wid_bytes _, sca_bytes _, by simp; omega, by simp; omega⟩
  have hgw' : hget H' bw = some (.vars [.sl (bytesV out) nl t]) := hr'.sub _ _ (hget_self _ _ _)
  simp only [go_sem, reduceIte, Nat.reduceEqDiff, Nat.reduceAdd, Nat.reduceMul, Nat.reduceSub, Nat.reduceLeDiff, Nat.reduceLT, reduceCtorEq, hgw']
  have w1 : WOk ((b3, .vars (cLt (k, f, t0, n, s, v))) :: base) bw 1 (bytesV (out ++ [u8 k])) (hset H' bw (.vars [.sl (bytesV (out ++ [u8 k])) false t'])) := ⟨h0, _, t', _, (by simp), hr'.put, fun _ _ h => h⟩
  have key : ∀ {es : List (List V)} {G1 : Heap}, WOk ((b3, .vars (cLt (k, f, t0, n, s, v))) :: base) bw 1 es G1 → hget G1 b3 = some (.vars (cLt (k, f, t0, n, s, v))) := fun h => h.old _ _ (hget_self _ _ _)
  have g1 := key w1
  refine aw_sr rfl ?_
  simp only [go_sem, reduceIte, Nat.reduceEqDiff, Nat.reduceAdd, Nat.reduceMul, Nat.reduceSub, Nat.reduceLeDiff, Nat.reduceLT, reduceCtorEq, g1, hw1]
  refine goA_by (a_natural _ bw _ _ _ (by omega) (by simp only [List.length_append, List.length_cons, List.length_nil]; omega) w1) fun y2 G2 w2 => ?_
  have g2 := key w2
  simp only [go_sem, reduceIte, Nat.reduceEqDiff, Nat.reduceAdd, Nat.reduceMul, Nat.reduceSub, Nat.reduceLeDiff, Nat.reduceLT, reduceCtorEq]
  refine aw_sr rfl ?_
  simp only [go_sem, reduceIte, Nat.reduceEqDiff, Nat.reduceAdd, Nat.reduceMul, Nat.reduceSub, Nat.reduceLeDiff, Nat.reduceLT, reduceCtorEq, g2, hw2]
  refine goA_by (a_natural _ bw _ _ _ (by omega) (by simp only [List.length_append, List.length_cons, List.length_nil]; omega) w2) fun y3 G3 w3 => ?_
  have g3 := key w3
  simp only [go_sem, reduceIte, Nat.reduceEqDiff, Nat.reduceAdd, Nat.reduceMul, Nat.reduceSub, Nat.reduceLeDiff, Nat.reduceLT, reduceCtorEq]
  refine aw_sr rfl ?_
  simp only [go_sem, reduceIte, Nat.reduceEqDiff, Nat.reduceAdd, Nat.reduceMul, Nat.reduceSub, Nat.reduceLeDiff, Nat.reduceLT, reduceCtorEq, g3, hw3]
  refine goA_by (a_natural _ bw _ _ _ (by omega) (by simp only [List.length_append, List.length_cons, List.length_nil]; omega) w3) fun y4 G4 w4 => ?_
  have g4 := key w4
  simp only [go_sem, reduceIte, Nat.reduceEqDiff, Nat.reduceAdd, Nat.reduceMul, Nat.reduceSub, Nat.reduceLeDiff, Nat.reduceLT, reduceCtorEq]
  refine aw_sr rfl ?_
  simp only [go_sem, reduceIte, Nat.reduceEqDiff, Nat.reduceAdd, Nat.reduceMul, Nat.reduceSub, Nat.reduceLeDiff, Nat.reduceLT, reduceCtorEq, g4]
  refine goA_by (a_text _ bw s _ _ (by omega) (by simp only [textB, List.length_append, List.length_cons, List.length_nil]; omega) w4) fun y5 G5 w5 => ?_
  have g5 := key w5
  simp only [go_sem, reduceIte, Nat.reduceEqDiff, Nat.reduceAdd, Nat.reduceMul, Nat.reduceSub, Nat.reduceLeDiff, Nat.reduceLT, reduceCtorEq]
  refine aw_sr rfl ?_
  simp only [go_sem, reduceIte, Nat.reduceEqDiff, Nat.reduceAdd, Nat.reduceMul, Nat.reduceSub, Nat.reduceLeDiff, Nat.reduceLT, reduceCtorEq, g5]
  refine aw_if rfl (fun h => ?_) (fun h => ?_)
  · rw [decide_eq_true_eq] at h
    have htv : tailL k v = encV v := by rw [tailL, if_pos h]
    rw [htv] at htl
    refine aw_rg rfl ?_
    simp only [go_sem, reduceIte, Nat.reduceEqDiff, Nat.reduceAdd, Nat.reduceMul, Nat.reduceSub, Nat.reduceLeDiff, Nat.reduceLT, reduceCtorEq, g5]
    refine goA_by (a_value _ bw v _ _ o6.1 (by simp only [textB, List.length_append, List.length_cons, List.length_nil]; omega) w5) fun y6 G6 w6 => ?_
    simp only [go_sem, reduceIte, Nat.reduceEqDiff, Nat.reduceAdd, Nat.reduceMul, Nat.reduceSub, Nat.reduceLeDiff, Nat.reduceLT, reduceCtorEq]
    refine ⟨trivial, [], rfl, ?_⟩
    have := w6.base (sub_tail hb3b)
    rw [encL, htv]
    simpa [List.append_assoc] using this
  · rw [decide_eq_false_iff_not] at h
    have htv : tailL k v = [] := by rw [tailL, if_neg h]
    refine aw_skip ⟨trivial, [], rfl, ?_⟩
    have := w5.base (sub_tail hb3b)
    rw [encL, htv]
    simpa [List.append_assoc] using this
end Go.Proofs.YtlgfffngojlffaaGreat
