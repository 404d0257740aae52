/- 'roadlaw5.ChunkCuts' returns true for every input whose bulk is at most 1048576 values and letters (the statement's own bound): Cut, Pack and Scan tell what the reference's Cuts, Packed and Scanned tell. No other condition. -/
import Derived.Test.YtomjghlaoncpbaaChunkF
import Derived.Test.YtomjghlaoncpbaaVp
import Derived.Test.YtomjghlaoncpbaaRows
import Derived.WalkKit
import Derived.ProofKit
import Derived.OpenShut
import Derived.JoinedCond
set_option linter.unusedSimpArgs false
set_option linter.unusedVariables false
set_option maxRecDepth 100000
namespace Go.Proofs.Ytomjghlaoncpbaa.chunkCuts
open Go.ChangeShapes Go.WideShapes Go.ChangeAt Go.RowKit
open Go.Proofs.YtomjghlaoncpbaaV
theorem own : ownKnob Try.prog.godebug = none := by kernel_rfl
theorem laidOut : laidOutB Try.prog = true := by kernel_rfl
theorem u5 : Try.prog.underlying 5 = some (.int .u8) := by kernel_rfl
theorem u22 : Try.prog.underlying 22 = some (.slice 5) := by kernel_rfl
theorem u23 : Try.prog.underlying 23 = some (.slice 22) := by kernel_rfl
theorem u4 : Try.prog.underlying 4 = some .bool := by kernel_rfl
theorem c5 : Try.prog.cellsOf 5 = 1 := by kernel_rfl
theorem c22 : Try.prog.cellsOf 22 = 1 := by kernel_rfl
theorem ty_bytes {n : Nat} : ∀ {es : List (List V)}, (∀ x ∈ es, x.length = Try.prog.cellsOf 5 ∧ TyV Try.prog n 5 x) → ∃ b, es = bytesV b
  | [], _ => ⟨[], rfl⟩
  | x :: es, h => by
    obtain ⟨b, rfl⟩ := ty_bytes (es := es) (fun y hy => h y (by simp [hy]))
    have hx := (h x (by simp)).2
    cases n with
    | zero => exact hx.elim
    | succ n =>
      unfold TyV at hx
      rw [u5] at hx
      obtain ⟨m, rfl, h1, h2⟩ := hx
      have h1 : 0 ≤ m := h1
      have h2 : m ≤ 255 := h2
      refine ⟨UInt8.ofNat m.toNat :: b, ?_⟩
      have : ((UInt8.ofNat m.toNat).toNat : Int) = m := by
        rw [UInt8.toNat_ofNat']
        omega
      simp only [bytesV, List.map_cons, this]
theorem ty_slice {n : Nat} {cs : List V} (h : TyV Try.prog n 22 cs) : ∃ b nl, cs = [.sl (bytesV b) nl .no] ∧ (nl = true → b = []) := by
  cases n with
  | zero => exact h.elim
  | succ n =>
    unfold TyV at h
    rw [u22] at h
    obtain ⟨es, nl, rfl, _, h2, h3⟩ := h (by rw [c5]; decide)
    obtain ⟨b, rfl⟩ := ty_bytes h3
    refine ⟨b, nl, rfl, fun e => ?_⟩
    have := h2 e
    cases b with
    | nil => rfl
    | cons x b => simp [bytesV] at this
theorem ty_pcs {n : Nat} : ∀ {es : List (List V)}, (∀ x ∈ es, x.length = Try.prog.cellsOf 22 ∧ TyV Try.prog n 22 x) → ∃ xs : List (List UInt8 × Bool), es = xs.map ePc
  | [], _ => ⟨[], rfl⟩
  | x :: es, h => by
    obtain ⟨xs, rfl⟩ := ty_pcs (es := es) (fun y hy => h y (by simp [hy]))
    obtain ⟨b, nl, rfl, _⟩ := ty_slice (h x (by simp)).2
    exact ⟨(b, nl) :: xs, rfl⟩
theorem sz_bytes (b : List UInt8) : vszLL (bytesV b) = b.length := by
  induction b with
  | nil => rfl
  | cons x b ih =>
    have : bytesV (x :: b) = [V.int .u8 (x.toNat : Int)] :: bytesV b := rfl
    rw [this]
    simp only [vszLL, vszL, vsz, ih, List.length_cons]
    omega
theorem sz_pcs (xs : List (List UInt8 × Bool)) : xs.length ≤ vszLL (xs.map ePc) ∧ sumL (xs.map (·.1)) ≤ 2 * vszLL (xs.map ePc) := by
  induction xs with
  | nil => simp [sumL]
  | cons x xs ih =>
    have h1 : vszLL ((x :: xs).map ePc) = x.1.length + 1 + vszLL (xs.map ePc) := by
      simp only [List.map_cons, vszLL, ePc, vszL, vsz, sz_bytes] <;> omega
    have h2 : sumL ((x :: xs).map (·.1)) = x.1.length + 2 + sumL (xs.map (·.1)) := by simp [sumL]
    rw [h1, h2, List.length_cons]
    omega
theorem typed {xs : List V} (h : TyAll Try.prog [22, 23] xs) (hs : vszL xs ≤ 1048576) : Quiet Try.prog 3 xs (.bool true) := by
  obtain ⟨x, ys, rfl, ⟨n, cs, h1, h2⟩, y, zs, rfl, ⟨m, ds, h3, h4⟩, rfl⟩ := h
  have a22 : isAggT Try.prog 22 = false := by kernel_rfl
  have a23 : isAggT Try.prog 23 = false := by kernel_rfl
  rw [a22] at h2
  rw [a23] at h4
  obtain ⟨h2, _⟩ | ⟨_, rfl⟩ := h2
  · cases h2
  obtain ⟨h4, _⟩ | ⟨_, rfl⟩ := h4
  · cases h4
  obtain ⟨b, nb, hb, hnb⟩ := ty_slice h1
  cases hb
  cases m with
  | zero => exact h3.elim
  | succ m =>
    unfold TyV at h3
    rw [u23] at h3
    obtain ⟨es, nx, he, _, _, h5⟩ := h3 (by rw [c22]; decide)
    cases he
    obtain ⟨xs, rfl⟩ := ty_pcs h5
    have hz := sz_pcs xs
    simp only [vszL, vsz, sz_bytes] at hs
    exact q_law b nb .no xs nx .no (by omega) hnb (by omega) (by omega)
theorem contract (H : Type) (enc : TypeId × Value → H) (W : World) (base : Nat) (args : Array Value) (ds gs : List (DataW H)) (before : List MemPlace)
    (hval : ∀ (j : Nat) t v, Try.f3.params[j]? = some t → args[j]? = some v → Value.okWide Try.prog W .any base t v)
    (hW : DataW.Whole enc Try.prog Try.f3.params.toList Rows.chunkCutsSpec.vars false W args.toList ds gs before) (hk : Rows.uptoSmall H (ds ++ gs) = true) :
    Calls Try.prog 3 args W fun e W' => ∃ v, e = .returned v ∧ Rows.chunkCutsSpec.post enc Try.prog Try.f3 false true false false W args v W' := by
  have hW' := hW
  obtain ⟨p, q, hA0, hV, rfl, hfz, hnd⟩ := hW
  have hA : DataW.TrodAll enc Try.prog W 0 (fun _ => true) true Try.f3.params.toList args.toList ds p := hA0
  obtain ⟨rfl, rfl⟩ := trodVars_none hV
  rw [Try.params3] at hA hval
  obtain ⟨xs, hr, ht, hs⟩ := trod_all (fun j t v hj hv => hval j t v (by simpa using hj) (by simpa using hv)) hA
  have hk' : Rows.uptoBulkAll (ds ++ []) ≤ 1048576 := of_decide_eq_true hk
  rw [List.append_nil] at hk'
  have hq := typed ht (Nat.le_trans hs hk')
  refine (ACall.calls (hq []) Try.func3 rfl rfl hr).mono fun e W' ⟨v, he, bel, M', x, G', hx, hxe, _⟩ => ?_
  subst hxe
  have hv := hx.bool_inv
  subst he hv
  have hst := trod_stays laidOut bel (by kernel_rfl) hA
  obtain ⟨v0, vs0, d0, ds0, p0, q0, hargs, rfl, rfl, h0, r0⟩ := trodAll_cons hA
  obtain ⟨v1, vs1, d1, ds1, p1, q1, rfl, rfl, rfl, h1, r1⟩ := trodAll_cons r0
  obtain ⟨rfl, rfl, rfl⟩ := trodAll_nil r1
  exact ⟨_, rfl, _, _, _, [], _, [], hW', trodAll_mk1 (shut_bool u4 _), hst, rfl, bel.frame _, fun h => by cases h⟩
set_option maxRecDepth 100000 in
theorem lifted (os : Os) (started : os.Started) (H : Type) (enc : TypeId × Value → H) (F : Stop.Interp) :
    ReturnsInHanded {} Try.checked os 3 .any ((Rows.OpenSpec.upto Rows.chunkCutsSpec).pre6 enc Try.prog Try.f3 Rows.chunkCutsUptoRow.domain false) (((Rows.OpenSpec.upto Rows.chunkCutsSpec).at F).post enc Try.prog Try.f3 false true false false) := by
  refine returnsInHanded_of_cond (C := Try.checked) (s := Rows.OpenSpec.upto Rows.chunkCutsSpec) (k := Rows.uptoSmall) rfl own started (by kernel_rfl) Try.func3
    (OpenSpec.witness (enc := enc) (C := Try.checked) (s := Rows.OpenSpec.upto Rows.chunkCutsSpec) (k := Rows.uptoSmall) rfl false ⟨#[], #[.slice none 0 0, .slice none 0 0], []⟩ 8 (by kernel_rfl) (by kernel_rfl) (by kernel_rfl)
      (x := ([.nil, .nil], [], [])) (by kernel_rfl) rfl (by kernel_rfl)) ?_
  intro W base args ds gs before hval hW _ hk _
  exact contract H enc W base args ds gs before hval hW hk
theorem over : Rows.chunkCutsUptoRow.holds Try.pinned (Rows.OpenSpec.upto Rows.chunkCutsSpec) :=
  OpenClaim.holds_of_cond 3 Try.f3 rfl rfl rfl rfl rfl rfl rfl ⟨rfl, rfl, rfl, rfl, rfl⟩ rfl rfl rfl rfl rfl (by kernel_rfl) Try.func3 (by kernel_rfl)
    (of_decide_eq_true (by kernel_rfl)) (by unfold Func.isWrapper; first | (rw [if_pos (by decide +kernel)]; kernel_rfl) | (rw [if_neg (by decide +kernel)]; exact ⟨rfl, rfl⟩))
    (fun os started H enc _ F => lifted os started H enc F)
theorem proved : Rows.ChunkCutsUptoSaid := over
#print axioms proved
end Go.Proofs.Ytomjghlaoncpbaa.chunkCuts
