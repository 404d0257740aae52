import Derived.Test.YtomjghlaoncpbaaValB
set_option linter.unusedSimpArgs false
set_option linter.unusedVariables false
namespace Go.Proofs.Ytomjghlaoncpbaa
open Go.Proofs.YtomjghlaoncpbaaV
set_option maxHeartbeats 400000
set_option maxRecDepth 100000
/-- A number from 0 on, seven bits a byte. -/
def natB (n : Nat) : List UInt8 := if h : n < 128 then [UInt8.ofNat n] else UInt8.ofNat (n % 128 + 128) :: natB (n / 128)
termination_by n
theorem natB_small {n : Nat} (h : n < 128) : natB n = [UInt8.ofNat n] := by rw [natB, dif_pos h]
theorem natB_big {n : Nat} (h : ¬ n < 128) : natB n = UInt8.ofNat (n % 128 + 128) :: natB (n / 128) := by rw [natB, dif_neg h]
theorem natB_pos (n : Nat) : 1 ≤ (natB n).length := by
  by_cases h : n < 128
  · rw [natB_small h]; simp
  · rw [natB_big h]; simp
theorem natB_len : ∀ k n, n < 128 ^ (k + 1) → (natB n).length ≤ k + 1
  | 0, n, h => by rw [natB_small (by simpa using h)]; simp
  | k + 1, n, h => by
    by_cases h1 : n < 128
    · rw [natB_small h1]; simp
    · rw [natB_big h1, List.length_cons]
      have := natB_len k (n / 128) (by rw [Nat.div_lt_iff_lt_mul (by decide)]; rw [Nat.pow_succ] at h; exact h)
      omega
theorem natB_len64 {n : Nat} (h : n < 2 ^ 64) : (natB n).length ≤ 10 := natB_len 9 n (Nat.lt_of_lt_of_le h (by decide))
theorem wrap_u64 (n : Int) : IntKind.u64.wrap n = n % 18446744073709551616 := by unfold IntKind.wrap; simp only [IntKind.bits, IntKind.signed]; simp
theorem or128 : ∀ x : Fin 256, bits BinOp.or IntKind.u8 ((x.val : Nat) : Int) 128 = ((x.val % 128 + 128 : Nat) : Int) := by decide +kernel
theorem or128' (n : Nat) : bits BinOp.or IntKind.u8 (IntKind.u8.wrap (n : Int)) 128 = (((UInt8.ofNat (n % 128 + 128)).toNat : Nat) : Int) := by
  have e : IntKind.u8.wrap (n : Int) = ((n % 256 : Nat) : Int) := by rw [wrap_u8]; omega
  rw [e]
  have := or128 ⟨n % 256, Nat.mod_lt _ (by decide)⟩
  simp only at this
  rw [this, UInt8.toNat_ofNat']
  omega
theorem byte_small {n : Nat} (h : n < 128) : IntKind.u8.wrap (n : Int) = (((UInt8.ofNat n).toNat : Nat) : Int) := by
  rw [wrap_u8, UInt8.toNat_ofNat']; omega
theorem shr7 (n : Nat) : (n : Int).fdiv (2 ^ (Nat.min (Int.toNat 7) 64)) = ((n / 128 : Nat) : Int) := by
  have : Nat.min (Int.toNat 7) 64 = 7 := rfl
  rw [this, Int.fdiv_eq_ediv_of_nonneg _ (by decide)]
  show (n : Int) / 128 = _
  omega
structure NatS where
  o : List UInt8
  k : Nat
  nl : Bool
  t : Tag
  H : Heap
theorem a_natural (base : Heap) (bw n : Nat) (out : List UInt8) (G : Heap) (hn : n < 2 ^ 64) (hl : (out ++ natB n).length ≤ 1099511627776) (hG : WOk base bw 1 (bytesV out) G) :
    ACall Try.prog 170 [.ptr bw 0, .int .u64 n] (fun _ G' => WOk base bw 1 (bytesV (out ++ natB n)) G') G := by
  obtain ⟨h0, nl, t, H, hnl, hr, hs⟩ := hG
  refine ACall.sub hs ?_
  refine acall_body (rs := []) Try.func170 rfl rfl Try.ntmps170 (by kernel_rfl) (Nat.le_of_ble_eq_true rfl) ?_
  refine aw_seq fun K1 hK1 => ?_
  refine aw_block ?_
  refine aw_lph (S := {s : NatS // s.o ++ natB s.k = out ++ natB n ∧ s.k < 2 ^ 64 ∧ Room ((bw, .vars [.sl (bytesV s.o) s.nl s.t]) :: base) 1 s.t s.H}) (fun s => [(0, .ptr bw 0), (1, .int .u64 s.1.k)]) (fun s => s.1.H) (fun s => s.1.k) ⟨⟨out, n, nl, t, H⟩, rfl, hn, hr⟩ ?_ (fun _ _ h => h) ?_
  · simp only [go_sem, reduceIte, Nat.reduceEqDiff, Nat.reduceAdd, Nat.reduceMul, Nat.reduceSub, Nat.reduceLeDiff, Nat.reduceLT, reduceCtorEq]
  intro ⟨⟨o, k, nl2, t2, H2⟩, i1, i2, i3⟩
  simp only at i1 i2 i3 ⊢
  have hgw : hget H2 bw = some (.vars [.sl (bytesV o) nl2 t2]) := i3.sub _ _ (hget_self _ _ _)
  have hlo : o.length + (natB k).length ≤ 1099511627776 := by rw [← List.length_append, i1]; exact hl
  have hpos := natB_pos k
  refine aw_seq fun K2 hK2 => ?_
  refine aw_sr rfl ?_
  simp only [go_sem, reduceIte, Nat.reduceEqDiff, Nat.reduceAdd, Nat.reduceMul, Nat.reduceSub, Nat.reduceLeDiff, Nat.reduceLT, reduceCtorEq]
  refine aw_if rfl (fun h => ?_) (fun h => ?_)
  · have hk : ¬ k < 128 := by
      have : (128 : Int) ≤ (k : Int) := by simpa using h
      omega
    refine aw_skip (hK2 _ _ ?_)
    refine aw_seq fun K3 hK3 => ?_
    refine aw_block ?_
    refine aw_rg rfl ?_
    simp only [go_sem, reduceIte, Nat.reduceEqDiff, Nat.reduceAdd, Nat.reduceMul, Nat.reduceSub, Nat.reduceLeDiff, Nat.reduceLT, reduceCtorEq, hgw, or128']
    refine goP_room i3 ?_ fun t' H' hr' => ?_
    · exact ⟨rfl, rfl, by decide, wid_bytes _, wid_bytes _, sca_bytes _, by simp; omega, by simp; omega⟩
    have hgw' : hget H' bw = some (.vars [.sl (bytesV o) nl2 t2]) := hr'.sub _ _ (hget_self _ _ _)
    simp only [go_sem, reduceIte, Nat.reduceEqDiff, Nat.reduceAdd, Nat.reduceMul, Nat.reduceSub, Nat.reduceLeDiff, Nat.reduceLT, reduceCtorEq, hgw']
    refine hK3 _ _ ?_
    refine aw_rg rfl ?_
    simp only [go_sem, reduceIte, Nat.reduceEqDiff, Nat.reduceAdd, Nat.reduceMul, Nat.reduceSub, Nat.reduceLeDiff, Nat.reduceLT, reduceCtorEq, shr7]
    refine ⟨by decide, ⟨⟨o ++ [UInt8.ofNat (k % 128 + 128)], k / 128, _, t', hset H' bw (.vars [.sl (bytesV (o ++ [UInt8.ofNat (k % 128 + 128)])) _ t'])⟩, ?_, ?_, hr'.put⟩, ?_, ?_, fun _ _ h => h⟩
    · rw [← i1, natB_big hk]; simp
    · show k / 128 < 2 ^ 64; omega
    · show k / 128 < k; omega
    · simp only [go_sem, reduceIte, Nat.reduceEqDiff, Nat.reduceAdd, Nat.reduceMul, Nat.reduceSub, Nat.reduceLeDiff, Nat.reduceLT, reduceCtorEq]
  · have hk : k < 128 := by
      have : (k : Int) < 128 := by simpa using h
      omega
    refine aw_exit ?_
    refine hK1 _ _ ?_
    refine aw_rg rfl ?_
    simp only [go_sem, reduceIte, Nat.reduceEqDiff, Nat.reduceAdd, Nat.reduceMul, Nat.reduceSub, Nat.reduceLeDiff, Nat.reduceLT, reduceCtorEq, hgw, byte_small hk]
    refine goP_room i3 ?_ fun t' H' hr' => ?_
    · exact ⟨rfl, rfl, by decide, wid_bytes _, wid_bytes _, sca_bytes _, by simp; omega, by simp; omega⟩
    have hgw' : hget H' bw = some (.vars [.sl (bytesV o) nl2 t2]) := hr'.sub _ _ (hget_self _ _ _)
    simp only [go_sem, reduceIte, Nat.reduceEqDiff, Nat.reduceAdd, Nat.reduceMul, Nat.reduceSub, Nat.reduceLeDiff, Nat.reduceLT, reduceCtorEq, hgw']
    refine ⟨trivial, [], rfl, h0, false, t', _, (by simp), ?_, fun _ _ h => h⟩
    rw [← i1, natB_small hk]
    exact hr'.put
theorem xor_zero64 {a : Nat} (h : a < 2 ^ 64) : bits BinOp.xor IntKind.u64 (a : Int) 0 = (a : Int) := by
  have e : (BitVec.ofInt 64 (a : Int) ^^^ BitVec.ofInt 64 0).toNat = a := by
    have : BitVec.ofInt 64 0 = 0#64 := rfl
    rw [this, BitVec.xor_zero, BitVec.ofInt_natCast, BitVec.toNat_ofNat, Nat.mod_eq_of_lt h]
  show IntKind.u64.wrap (((BitVec.ofInt 64 (a : Int) ^^^ BitVec.ofInt 64 0).toNat : Nat) : Int) = _
  rw [e, wrap_u64]; omega
theorem xor_ones64 {a : Nat} (h : a < 2 ^ 64) : bits BinOp.xor IntKind.u64 (a : Int) 18446744073709551615 = ((18446744073709551615 - a : Nat) : Int) := by
  have e : (BitVec.ofInt 64 (a : Int) ^^^ BitVec.ofInt 64 18446744073709551615).toNat = 18446744073709551615 - a := by
    have : BitVec.ofInt 64 18446744073709551615 = BitVec.allOnes 64 := rfl
    rw [this, BitVec.xor_allOnes, BitVec.toNat_not, BitVec.ofInt_natCast, BitVec.toNat_ofNat, Nat.mod_eq_of_lt h]
  show IntKind.u64.wrap (((BitVec.ofInt 64 (a : Int) ^^^ BitVec.ofInt 64 18446744073709551615).toNat : Nat) : Int) = _
  rw [e, wrap_u64]; omega
/-- Any number: twice what it is; below 0 twice what it is less, less one. -/
def numN (n : Int) : Nat := if 0 ≤ n then (2 * n).toNat else (-2 * n - 1).toNat
theorem i64_range {n : Int} (hn : IntKind.i64.min ≤ n ∧ n ≤ IntKind.i64.max) : -9223372036854775808 ≤ n ∧ n ≤ 9223372036854775807 := hn
theorem numN_lt {n : Int} (hn : IntKind.i64.min ≤ n ∧ n ≤ IntKind.i64.max) : numN n < 2 ^ 64 := by
  have := i64_range hn
  unfold numN
  split <;> omega
theorem num_bits {n : Int} (hn : IntKind.i64.min ≤ n ∧ n ≤ IntKind.i64.max) :
    bits BinOp.xor IntKind.u64 (IntKind.u64.wrap (IntKind.u64.wrap n * 2 ^ (Nat.min (Int.toNat 1) 64))) (IntKind.u64.wrap (n.fdiv (2 ^ (Nat.min (Int.toNat 63) 64)))) = ((numN n : Nat) : Int) := by
  have hr := i64_range hn
  have e1 : Nat.min (Int.toNat 1) 64 = 1 := rfl
  have e2 : Nat.min (Int.toNat 63) 64 = 63 := rfl
  rw [e1, e2, Int.fdiv_eq_ediv_of_nonneg _ (by decide)]
  have e3 : n / 2 ^ 63 = if 0 ≤ n then 0 else -1 := by
    show n / 9223372036854775808 = _
    split <;> omega
  rw [e3, wrap_u64, wrap_u64, wrap_u64]
  by_cases h : 0 ≤ n
  · rw [if_pos h, numN, if_pos h]
    have a1 : (n % 18446744073709551616 * 2 ^ 1) % 18446744073709551616 = (((2 * n).toNat : Nat) : Int) := by
      show (n % 18446744073709551616 * 2) % 18446744073709551616 = _
      omega
    rw [a1, show ((0 : Int) % 18446744073709551616) = 0 from rfl]
    exact xor_zero64 (by omega)
  · rw [if_neg h, numN, if_neg h]
    have a1 : (n % 18446744073709551616 * 2 ^ 1) % 18446744073709551616 = (((18446744073709551616 + 2 * n).toNat : Nat) : Int) := by
      show (n % 18446744073709551616 * 2) % 18446744073709551616 = _
      omega
    rw [a1, show ((-1 : Int) % 18446744073709551616) = 18446744073709551615 from rfl, xor_ones64 (by omega)]
    omega
theorem natB_numN {n : Int} (hn : IntKind.i64.min ≤ n ∧ n ≤ IntKind.i64.max) : (natB (numN n)).length ≤ 10 := natB_len64 (numN_lt hn)
theorem a_num (base : Heap) (bw : Nat) (n : Int) (out : List UInt8) (G : Heap) (hn : IntKind.i64.min ≤ n ∧ n ≤ IntKind.i64.max) (hl : (out ++ natB (numN n)).length ≤ 1099511627776) (hG : WOk base bw 1 (bytesV out) G) :
    ACall Try.prog 143 [.ptr bw 0, .int .i64 n] (fun _ G' => WOk base bw 1 (bytesV (out ++ natB (numN n))) G') G := by
  refine acall_body (rs := []) Try.func143 rfl rfl Try.ntmps143 (by kernel_rfl) (Nat.le_of_ble_eq_true rfl) ?_
  refine aw_rg rfl ?_
  simp only [go_sem, reduceIte, Nat.reduceEqDiff, Nat.reduceAdd, Nat.reduceMul, Nat.reduceSub, Nat.reduceLeDiff, Nat.reduceLT, reduceCtorEq, num_bits hn]
  refine ⟨by decide, by decide, ?_⟩
  refine goA_by (a_natural base bw _ out G (numN_lt hn) hl hG) fun y G' h => ?_
  simp only [go_sem, reduceIte, Nat.reduceEqDiff, Nat.reduceAdd, Nat.reduceMul, Nat.reduceSub, Nat.reduceLeDiff, Nat.reduceLT, reduceCtorEq]
  exact ⟨trivial, [], rfl, h⟩
theorem wrapN {n : Nat} (h : n < 2 ^ 64) : IntKind.u64.wrap (n : Int) = (n : Int) := by rw [wrap_u64]; omega
def textB (s : List UInt8) : List UInt8 := natB s.length ++ s
theorem a_text (base : Heap) (bw : Nat) (s out : List UInt8) (G : Heap) (hs : s.length < 2 ^ 40) (hl : (out ++ textB s).length ≤ 1099511627776) (hG : WOk base bw 1 (bytesV out) G) :
    ACall Try.prog 144 [.ptr bw 0, .str s] (fun _ G' => WOk base bw 1 (bytesV (out ++ textB s)) G') G := by
  have hl' : out.length + (natB s.length).length + s.length ≤ 1099511627776 := by simpa [textB, Nat.add_assoc] using hl
  refine acall_body (rs := []) Try.func144 rfl rfl Try.ntmps144 (by kernel_rfl) (Nat.le_of_ble_eq_true rfl) ?_
  refine aw_sr rfl ?_
  simp only [go_sem, reduceIte, Nat.reduceEqDiff, Nat.reduceAdd, Nat.reduceMul, Nat.reduceSub, Nat.reduceLeDiff, Nat.reduceLT, reduceCtorEq, wrapN (Nat.lt_trans hs (by decide : 2 ^ 40 < 2 ^ 64))]
  refine goA_by (a_natural base bw _ out G (Nat.lt_trans hs (by decide)) (by rw [List.length_append]; omega) hG) fun y G' h => ?_
  obtain ⟨h0, nl, t, H, hnl, hr, hsb⟩ := h
  simp only [go_sem, reduceIte, Nat.reduceEqDiff, Nat.reduceAdd, Nat.reduceMul, Nat.reduceSub, Nat.reduceLeDiff, Nat.reduceLT, reduceCtorEq]
  refine AW.of_hsub hsb ?_
  have hgw : hget H bw = some (.vars [.sl (bytesV (out ++ natB s.length)) nl t]) := hr.sub _ _ (hget_self _ _ _)
  refine aw_rg rfl ?_
  simp only [go_sem, reduceIte, Nat.reduceEqDiff, Nat.reduceAdd, Nat.reduceMul, Nat.reduceSub, Nat.reduceLeDiff, Nat.reduceLT, reduceCtorEq, hgw]
  refine goP_room hr ?_ fun t' H' hr' => ?_
  · exact ⟨rfl, rfl, by decide, wid_bytes _, wid_bytes _, sca_bytes _, by simp; omega, by simp; omega⟩
  have hgw' : hget H' bw = some (.vars [.sl (bytesV (out ++ natB s.length)) nl t]) := hr'.sub _ _ (hget_self _ _ _)
  simp only [go_sem, reduceIte, Nat.reduceEqDiff, Nat.reduceAdd, Nat.reduceMul, Nat.reduceSub, Nat.reduceLeDiff, Nat.reduceLT, reduceCtorEq, hgw', List.append_assoc]
  exact ⟨trivial, [], rfl, h0, _, t', _, (fun e => by
    have e1 : nl = true := by simp only [Bool.and_eq_true] at e; exact e.1
    have := hnl e1
    have := natB_pos s.length
    have e3 := congrArg List.length (hnl e1)
    rw [length_bytesV, List.length_append, List.length_nil] at e3; omega), hr'.put, fun _ _ h => h⟩
end Go.Proofs.Ytomjghlaoncpbaa
