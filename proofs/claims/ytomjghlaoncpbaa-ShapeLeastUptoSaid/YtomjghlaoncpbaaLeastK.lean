/- 'roadlaw5.ShapeLeast' returns true for every input whose bulk is at most 1048576 values and letters (the statement's own bound): First returns what the reference returns. No other condition. -/
import Derived.Test.YtomjghlaoncpbaaLeastJ
import Derived.Test.YtomjghlaoncpbaaVr
import Derived.Test.YtomjghlaoncpbaaRows
import Derived.WalkKit
import Derived.ProofKit
import Derived.OpenShut
import Derived.JoinedCond
set_option linter.unusedSimpArgs false
set_option linter.unusedVariables false
set_option maxRecDepth 100000
namespace Go.Proofs.Ytomjghlaoncpbaa.shapeLeast
open Go.ChangeShapes Go.WideShapes Go.ChangeAt Go.RowKit
open Go.Proofs.YtomjghlaoncpbaaV
theorem own : ownKnob Try.prog.godebug = none := by kernel_rfl
theorem laidOut : laidOutB Try.prog = true := by kernel_rfl
theorem uBool : Try.prog.underlying 4 = some .bool := by kernel_rfl
theorem typed {xs : List V} (h : TyAll Try.prog [62, 65] xs) (hs : vszL xs ≤ 1048576) : Quiet Try.prog 9 xs (.bool true) := by
  obtain ⟨x0, x1, rfl, q0, q1⟩ := args h hs
  exact law x0 x1 q0 q1
theorem contract (H : Type) (enc : TypeId × Value → H) (W : World) (base : Nat) (args : Array Value) (ds gs : List (DataW H)) (before : List MemPlace)
    (hval : ∀ (j : Nat) t v, Try.f9.params[j]? = some t → args[j]? = some v → Value.okWide Try.prog W .any base t v)
    (hW : DataW.Whole enc Try.prog Try.f9.params.toList Rows.shapeLeastSpec.vars false W args.toList ds gs before) (hk : Rows.uptoSmall H (ds ++ gs) = true) :
    Calls Try.prog 9 args W fun e W' => ∃ v, e = .returned v ∧ Rows.shapeLeastSpec.post enc Try.prog Try.f9 false true false false W args v W' := by
  have hW' := hW
  obtain ⟨p, q, hA0, hV, rfl, hfz, hnd⟩ := hW
  have hA : DataW.TrodAll enc Try.prog W 0 (fun _ => true) true Try.f9.params.toList args.toList ds p := hA0
  obtain ⟨rfl, rfl⟩ := trodVars_none hV
  rw [Try.params9] at hA hval
  obtain ⟨xs, hr, ht, hs⟩ := trod_all (fun j t v hj hv => hval j t v (by simpa using hj) (by simpa using hv)) hA
  have hk' : Rows.uptoBulkAll (ds ++ []) ≤ 1048576 := of_decide_eq_true hk
  rw [List.append_nil] at hk'
  have hq := typed ht (Nat.le_trans hs hk')
  refine (ACall.calls (hq []) Try.func9 rfl rfl hr).mono fun e W' ⟨v, he, bel, M', x, G', hx, hxe, _⟩ => ?_
  subst hxe
  have hv := hx.bool_inv
  subst he hv
  have hst := trod_stays laidOut bel (by kernel_rfl) hA
  obtain ⟨v0, vs0, d0, ds0, p0, q0, hargs, rfl, rfl, h0, r0⟩ := trodAll_cons hA
  obtain ⟨v1, vs1, d1, ds1, p1, q1, rfl, rfl, rfl, h1, r1⟩ := trodAll_cons r0
  obtain ⟨rfl, rfl, rfl⟩ := trodAll_nil r1
  exact ⟨_, rfl, _, _, _, [], _, [], hW', trodAll_mk1 (shut_bool uBool _), hst, rfl, bel.frame _, fun h => by cases h⟩
set_option maxRecDepth 100000 in
theorem lifted (os : Os) (started : os.Started) (H : Type) (enc : TypeId × Value → H) (F : Stop.Interp) :
    ReturnsInHanded {} Try.checked os 9 .any ((Rows.OpenSpec.upto Rows.shapeLeastSpec).pre6 enc Try.prog Try.f9 Rows.shapeLeastUptoRow.domain false) (((Rows.OpenSpec.upto Rows.shapeLeastSpec).at F).post enc Try.prog Try.f9 false true false false) := by
  refine returnsInHanded_of_cond (C := Try.checked) (s := Rows.OpenSpec.upto Rows.shapeLeastSpec) (k := Rows.uptoSmall) rfl own started (by kernel_rfl) Try.func9
    (OpenSpec.witness (enc := enc) (C := Try.checked) (s := Rows.OpenSpec.upto Rows.shapeLeastSpec) (k := Rows.uptoSmall) rfl false ⟨#[], #[(.agg #[(.string ⟨#[]⟩), (.int .i64 0), (.slice none 0 0), (.slice none 0 0), (.slice none 0 0), (.slice none 0 0), (.slice none 0 0), (.slice none 0 0)]), (.agg #[(.int .i64 0), (.string ⟨#[]⟩), (.slice none 0 0)])], []⟩ 8 (by kernel_rfl) (by kernel_rfl) (by kernel_rfl)
      (x := ([(.agg [(.lit (.string [])), (.lit (.int .i64 0)), .nil, .nil, .nil, .nil, .nil, .nil]), (.agg [(.lit (.int .i64 0)), (.lit (.string [])), .nil])], [], [])) (by kernel_rfl) rfl (by kernel_rfl)) ?_
  intro W base args ds gs before hval hW _ hk _
  exact contract H enc W base args ds gs before hval hW hk
theorem over : Rows.shapeLeastUptoRow.holds Try.pinned (Rows.OpenSpec.upto Rows.shapeLeastSpec) :=
  OpenClaim.holds_of_cond 9 Try.f9 rfl rfl rfl rfl rfl rfl rfl ⟨rfl, rfl, rfl, rfl, rfl⟩ rfl rfl rfl rfl rfl (by kernel_rfl) Try.func9 (by kernel_rfl)
    (of_decide_eq_true (by kernel_rfl)) (by unfold Func.isWrapper; first | (rw [if_pos (by decide +kernel)]; kernel_rfl) | (rw [if_neg (by decide +kernel)]; exact ⟨rfl, rfl⟩))
    (fun os started H enc _ F => lifted os started H enc F)
theorem proved : Rows.ShapeLeastUptoSaid := over
#print axioms proved
end Go.Proofs.Ytomjghlaoncpbaa.shapeLeast
