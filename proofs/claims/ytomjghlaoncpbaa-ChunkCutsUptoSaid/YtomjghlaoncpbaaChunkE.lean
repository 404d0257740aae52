import Derived.Test.YtomjghlaoncpbaaChunkB
import Derived.Test.YtomjghlaoncpbaaChunkC
import Derived.Test.YtomjghlaoncpbaaChunkD
set_option linter.unusedSimpArgs false
set_option linter.unusedVariables false
namespace Go.Proofs.Ytomjghlaoncpbaa
open Go.Proofs.YtomjghlaoncpbaaV
set_option maxHeartbeats 400000
set_option maxRecDepth 100000
/-- Where a piece that has begun ends. -/
def cutK (k : Nat) (b : List UInt8) : Nat := let n := min b.length k; let i := Lib.indexByte (b.take n) 10; if 0 ≤ i then i.toNat + 1 else n
theorem indexByte_cons (c : UInt8) (l : List UInt8) : 0 ≤ Lib.indexByte (c :: l) 10 ↔ (c = 10 ∨ 0 ≤ Lib.indexByte l 10) := by
  have := indexByte_bounds l 10
  simp only [Lib.indexByte]
  split
  · rename_i h; simp at h; simp [h]
  · rename_i h
    have hc : c ≠ 10 := by simpa using h
    split
    · rename_i h2; have h2 : Lib.indexByte l 10 = -1 := by simpa using h2
      simp [h2, hc]
    · rename_i h2
      have h2 : Lib.indexByte l 10 ≠ -1 := by simpa using h2
      constructor
      · intro e; right; omega
      · rintro (e | e)
        · exact absurd e hc
        · omega
theorem cutK_cons (k : Nat) (c : UInt8) (b : List UInt8) : cutK (k + 1) (c :: b) = if c = 10 then 1 else 1 + cutK k b := by
  have hm : min (c :: b).length (k + 1) = min b.length k + 1 := by simp only [List.length_cons]; omega
  unfold cutK
  simp only [hm, List.take_succ_cons]
  have hb := indexByte_bounds (b.take (min b.length k)) 10
  by_cases hc : c = 10
  · rw [if_pos hc, if_pos ((indexByte_cons _ _).2 (.inl hc))]
    subst hc
    simp [Lib.indexByte]
  · rw [if_neg hc]
    by_cases h0 : 0 ≤ Lib.indexByte (b.take (min b.length k)) 10
    · rw [if_pos ((indexByte_cons _ _).2 (.inr h0)), if_pos h0]
      have hc' : (c == 10) = false := by simpa using hc
      have hn : (Lib.indexByte (b.take (min b.length k)) 10 == -1) = false := by simp; omega
      simp only [Lib.indexByte, hc', hn, Bool.false_eq_true, if_false]
      omega
    · rw [if_neg h0, if_neg (fun e => by rcases (indexByte_cons _ _).1 e with e | e; exact hc e; exact h0 e)]
      omega
theorem cutsR_eq : ∀ (b now : List UInt8), now.length < 32 → cutsR now b = if b = [] then (if now = [] then [] else [now]) else (now ++ b.take (cutK (32 - now.length) b)) :: cutsR [] (b.drop (cutK (32 - now.length) b))
  | [], now, h => by simp [cutsR]
  | c :: b, now, h => by
    rw [if_neg (by simp), cutsR]
    have hk : 32 - now.length = (31 - now.length) + 1 := by omega
    rw [hk, cutK_cons]
    by_cases hc : c = 10
    · simp [hc]
    · rw [if_neg hc]
      by_cases hf : (now ++ [c]).length = 32
      · rw [if_pos (.inr hf)]
        have : 31 - now.length = 0 := by simp only [List.length_append, List.length_cons, List.length_nil] at hf; omega
        rw [this]
        have hz : cutK 0 b = 0 := by simp [cutK, Lib.indexByte]
        rw [hz]
        simp
      · rw [if_neg (by rintro (e | e); exact hc e; exact hf e), cutsR_eq b (now ++ [c]) (by simp only [List.length_append, List.length_cons, List.length_nil] at hf ⊢; omega)]
        have hl : 32 - (now ++ [c]).length = 31 - now.length := by simp only [List.length_append, List.length_cons, List.length_nil]; omega
        rw [hl, Nat.add_comm 1, List.take_succ_cons, List.drop_succ_cons]
        by_cases hb : b = []
        · subst hb
          simp [cutsR]
        · rw [if_neg hb]
          simp
theorem cut_same : ∀ (n : Nat) (b : List UInt8), b.length ≤ n → cutL b = cutsR [] b := by
  intro n
  induction n with
  | zero => intro b h; have : b = [] := List.eq_nil_of_length_eq_zero (by omega)
            subst this; simp [cutL, cutsR]
  | succ n ih =>
    intro b h
    rw [cutsR_eq b [] (by simp), cutL]
    by_cases hb : b = []
    · simp [hb]
    · have hp := cutAt_pos hb
      rw [dif_neg hb, if_neg hb]
      have : cutK (32 - ([] : List UInt8).length) b = cutAt b := rfl
      rw [this, ih _ (by simp; omega)]
      rfl
end Go.Proofs.Ytomjghlaoncpbaa
