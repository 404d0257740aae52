/-
  Variables that a call has just made: named, and the heap behind them as one heap.
-/
import Derived.Test.YtomjghlaoncpbaaVt
namespace Go.Proofs.YtomjghlaoncpbaaV
set_option linter.unusedVariables false
section
variable {P : Program} {N : Nat} {Q : Cont} {f : Frame} {G : Heap} {c : Code}
theorem aw_box1 {a : Nat} {X : AObj} (ha : hget G a = none) (h : ∀ B, Sub G B → hget B a = some X → AW P N c Q f B) : AW P N c Q f ((a, X) :: G) :=
  h _ (sub_tail ha) (hget_self _ _ _)
theorem aw_box2 {a b : Nat} {X Y : AObj} (ha : hget G a = none) (hb : hget ((a, X) :: G) b = none) (h : ∀ B, Sub G B → hget B a = some X → hget B b = some Y → ¬ a = b → ¬ b = a → AW P N c Q f B) : AW P N c Q f ((b, Y) :: (a, X) :: G) := by
  obtain ⟨n1, hb'⟩ := fresh_cons hb
  exact h _ (sub_fresh hb' (sub_tail ha)) (by rw [hget_cons_ne n1, hget_self]) (hget_self _ _ _) (fun e => n1 e.symm) n1
theorem aw_box3 {a b c' : Nat} {X Y Z : AObj} (ha : hget G a = none) (hb : hget ((a, X) :: G) b = none) (hc : hget ((b, Y) :: (a, X) :: G) c' = none)
    (h : ∀ B, Sub G B → hget B a = some X → hget B b = some Y → hget B c' = some Z → ¬ a = b → ¬ b = a → ¬ a = c' → ¬ c' = a → ¬ b = c' → ¬ c' = b → AW P N c Q f B) : AW P N c Q f ((c', Z) :: (b, Y) :: (a, X) :: G) := by
  obtain ⟨n1, hb'⟩ := fresh_cons hb
  obtain ⟨n2, hc'⟩ := fresh_cons hc
  obtain ⟨n3, hc''⟩ := fresh_cons hc'
  exact h _ (sub_fresh hc'' (sub_fresh hb' (sub_tail ha))) (by rw [hget_cons_ne n3, hget_cons_ne n1, hget_self]) (by rw [hget_cons_ne n2, hget_self]) (hget_self _ _ _) (fun e => n1 e.symm) n1 (fun e => n3 e.symm) n3 (fun e => n2 e.symm) n2
theorem aw_box4 {a b c' d : Nat} {X Y Z W : AObj} (ha : hget G a = none) (hb : hget ((a, X) :: G) b = none) (hc : hget ((b, Y) :: (a, X) :: G) c' = none) (hd : hget ((c', Z) :: (b, Y) :: (a, X) :: G) d = none)
    (h : ∀ B, Sub G B → hget B a = some X → hget B b = some Y → hget B c' = some Z → hget B d = some W → AW P N c Q f B) : AW P N c Q f ((d, W) :: (c', Z) :: (b, Y) :: (a, X) :: G) := by
  obtain ⟨n1, hb'⟩ := fresh_cons hb
  obtain ⟨n2, hc'⟩ := fresh_cons hc
  obtain ⟨n3, hc''⟩ := fresh_cons hc'
  obtain ⟨m1, hd1⟩ := fresh_cons hd
  obtain ⟨m2, hd2⟩ := fresh_cons hd1
  obtain ⟨m3, hd3⟩ := fresh_cons hd2
  exact h _ (sub_fresh hd3 (sub_fresh hc'' (sub_fresh hb' (sub_tail ha)))) (by rw [hget_cons_ne m3, hget_cons_ne n3, hget_cons_ne n1, hget_self]) (by rw [hget_cons_ne m2, hget_cons_ne n2, hget_self]) (by rw [hget_cons_ne m1, hget_self]) (hget_self _ _ _)
end
theorem none_sub {G H : Heap} {b : Nat} (h : Sub G H) (hb : hget H b = none) : hget G b = none := sub_none h hb
end Go.Proofs.YtomjghlaoncpbaaV
