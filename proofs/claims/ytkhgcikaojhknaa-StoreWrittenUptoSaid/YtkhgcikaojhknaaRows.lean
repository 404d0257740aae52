/-
  NARROWER THAN 'FOR EVERY INPUT', by the rows' own cells (each row's printed sentence says how): CacheTells: loops · ArmsTells: loops · FoldTells: loops · CodeChecks: loops · ValueLetters: loops · RenewPlan: loops · ValueSaved: loops · StoreWritten: loops.
  DERIVED. THE GIVEN ROWS OF THIS SEAT. 12 by the template 'for every input the law returns true; each argument reads behind the call as it read before'; 0 by the template 'total and deterministic' (their statements: YtkhgcikaojhknaaTotals.lean).
  GIVEN WITH THE SEED: the statements are not yours to turn. If you find one false, say at which input.
  Laid BY PROGRAM, IN A SANDBOX (cutbox-rows.mjs): the forced cells as the released guide's own fill.sh prints them over the translation 45da7744bde1d736… (all of the seat's roots in one cut). By AI agents, Wed Nov 11 2026. No macro, syntax, notation, axiom, sorry.
-/
import Derived.Test.YtkhgcikaojhknaaChecked
import GoSem.Claim
import GoSem.ClaimJoined
import GoSem.ClaimMapViews
import Derived.JoinedTies
import Derived.KernelRfl
namespace Go.Proofs.Ytkhgcikaojhknaa
/- THE CELL 'sum', in the pinned program and in every row, IS THE sha256 OF THE DUMP (.gsa) THAT YtkhgcikaojhknaaProg.lean LOADS. Nothing in Lean hashes anything: it is a label: what it is worth is what the hold of that sum in a sandbox is worth. -/
noncomputable def Try.pinned : Pinned := { name := "ytkhgcikaojhknaa", sum := "45da7744bde1d7362a8e0d952ea568409933221dd82eb603d9b8d09389471e83", checked := Try.checked }
namespace Rows
def none {H : Type} : Left H := { results := [], args := [] }

/-- 'roadlaw5.ChunkShelf': WHATEVER THE INPUT: true; the input reads as it did. -/
def chunkShelfSpec : ChangeSpec := { name := "chunkShelf", fn := fun _ => fun
  | [d] => { results := [.lit (.bool true)], args := [d] }
  | _ => none }
def chunkShelfRow : OpenClaim := { program := "ytkhgcikaojhknaa", sum := "45da7744bde1d7362a8e0d952ea568409933221dd82eb603d9b8d09389471e83", func := "roadstead/roadlaw5.ChunkShelf", spec := "chunkShelf", inPlace := ["internal/bytealg.IndexByte"], unfollowed := true, recurses := true, plainKeys := false, apart := false }
def ChunkShelfSaid : Prop := chunkShelfRow.holds Try.pinned (OpenSpec.ofChange chunkShelfSpec)

/-- ITS FALSE NEIGHBOUR: 'it returns false'. Refute it at one input. -/
def chunkShelfWrong : ChangeSpec := { name := "chunkShelf", fn := fun _ => fun
  | [d] => { results := [.lit (.bool false)], args := [d] }
  | _ => none }
def ChunkShelfWrongFalsely : Prop := chunkShelfRow.holds Try.pinned (OpenSpec.ofChange chunkShelfWrong)

/-- 'roadlaw1.CacheTells': WHATEVER THE INPUT: true; the input reads as it did. -/
def cacheTellsSpec : ChangeSpec := { name := "cacheTells", fn := fun _ => fun
  | [d1, d2] => { results := [.lit (.bool true)], args := [d1, d2] }
  | _ => none }
def cacheTellsRow : OpenClaim := { program := "ytkhgcikaojhknaa", sum := "45da7744bde1d7362a8e0d952ea568409933221dd82eb603d9b8d09389471e83", func := "roadstead/roadlaw1.CacheTells", spec := "cacheTells", inPlace := ["slices.overlaps[roadstead/cache.Way]"], unfollowed := true, recurses := true, loops := true, plainKeys := false, apart := false }
def CacheTellsSaid : Prop := cacheTellsRow.holds Try.pinned (OpenSpec.ofChange cacheTellsSpec)

/-- ITS FALSE NEIGHBOUR: 'it returns false'. Refute it at one input. -/
def cacheTellsWrong : ChangeSpec := { name := "cacheTells", fn := fun _ => fun
  | [d1, d2] => { results := [.lit (.bool false)], args := [d1, d2] }
  | _ => none }
def CacheTellsWrongFalsely : Prop := cacheTellsRow.holds Try.pinned (OpenSpec.ofChange cacheTellsWrong)

/-- 'roadlaw1.ArmsTells': WHATEVER THE INPUT: true; the input reads as it did. -/
def armsTellsSpec : ChangeSpec := { name := "armsTells", fn := fun _ => fun
  | [d1, d2] => { results := [.lit (.bool true)], args := [d1, d2] }
  | _ => none }
def armsTellsRow : OpenClaim := { program := "ytkhgcikaojhknaa", sum := "45da7744bde1d7362a8e0d952ea568409933221dd82eb603d9b8d09389471e83", func := "roadstead/roadlaw1.ArmsTells", spec := "armsTells", unfollowed := true, recurses := true, loops := true, plainKeys := false, apart := false }
def ArmsTellsSaid : Prop := armsTellsRow.holds Try.pinned (OpenSpec.ofChange armsTellsSpec)

/-- ITS FALSE NEIGHBOUR: 'it returns false'. Refute it at one input. -/
def armsTellsWrong : ChangeSpec := { name := "armsTells", fn := fun _ => fun
  | [d1, d2] => { results := [.lit (.bool false)], args := [d1, d2] }
  | _ => none }
def ArmsTellsWrongFalsely : Prop := armsTellsRow.holds Try.pinned (OpenSpec.ofChange armsTellsWrong)

/-- 'roadlaw5.MoveRuns': WHATEVER THE INPUT: true; the input reads as it did. -/
def moveRunsSpec : ChangeSpec := { name := "moveRuns", fn := fun _ => fun
  | [d1, d2, d3] => { results := [.lit (.bool true)], args := [d1, d2, d3] }
  | _ => none }
def moveRunsRow : OpenClaim := { program := "ytkhgcikaojhknaa", sum := "45da7744bde1d7362a8e0d952ea568409933221dd82eb603d9b8d09389471e83", func := "roadstead/roadlaw5.MoveRuns", spec := "moveRuns", unfollowed := true, recurses := true, plainKeys := false, apart := false }
def MoveRunsSaid : Prop := moveRunsRow.holds Try.pinned (OpenSpec.ofChange moveRunsSpec)

/-- ITS FALSE NEIGHBOUR: 'it returns false'. Refute it at one input. -/
def moveRunsWrong : ChangeSpec := { name := "moveRuns", fn := fun _ => fun
  | [d1, d2, d3] => { results := [.lit (.bool false)], args := [d1, d2, d3] }
  | _ => none }
def MoveRunsWrongFalsely : Prop := moveRunsRow.holds Try.pinned (OpenSpec.ofChange moveRunsWrong)

/-- 'roadlaw5.MarkRuns': WHATEVER THE INPUT: true; the input reads as it did. -/
def markRunsSpec : ChangeSpec := { name := "markRuns", fn := fun _ => fun
  | [d1, d2] => { results := [.lit (.bool true)], args := [d1, d2] }
  | _ => none }
def markRunsRow : OpenClaim := { program := "ytkhgcikaojhknaa", sum := "45da7744bde1d7362a8e0d952ea568409933221dd82eb603d9b8d09389471e83", func := "roadstead/roadlaw5.MarkRuns", spec := "markRuns", unfollowed := true, recurses := true, plainKeys := false, apart := false }
def MarkRunsSaid : Prop := markRunsRow.holds Try.pinned (OpenSpec.ofChange markRunsSpec)

/-- ITS FALSE NEIGHBOUR: 'it returns false'. Refute it at one input. -/
def markRunsWrong : ChangeSpec := { name := "markRuns", fn := fun _ => fun
  | [d1, d2] => { results := [.lit (.bool false)], args := [d1, d2] }
  | _ => none }
def MarkRunsWrongFalsely : Prop := markRunsRow.holds Try.pinned (OpenSpec.ofChange markRunsWrong)

/-- 'roadlaw5.ValueRead': WHATEVER THE INPUT: true; the input reads as it did. -/
def valueReadSpec : ChangeSpec := { name := "valueRead", fn := fun _ => fun
  | [d] => { results := [.lit (.bool true)], args := [d] }
  | _ => none }
def valueReadRow : OpenClaim := { program := "ytkhgcikaojhknaa", sum := "45da7744bde1d7362a8e0d952ea568409933221dd82eb603d9b8d09389471e83", func := "roadstead/roadlaw5.ValueRead", spec := "valueRead", unfollowed := true, recurses := true, plainKeys := false, apart := false }
def ValueReadSaid : Prop := valueReadRow.holds Try.pinned (OpenSpec.ofChange valueReadSpec)

/-- ITS FALSE NEIGHBOUR: 'it returns false'. Refute it at one input. -/
def valueReadWrong : ChangeSpec := { name := "valueRead", fn := fun _ => fun
  | [d] => { results := [.lit (.bool false)], args := [d] }
  | _ => none }
def ValueReadWrongFalsely : Prop := valueReadRow.holds Try.pinned (OpenSpec.ofChange valueReadWrong)

/-- 'roadlaw1.FoldTells': WHATEVER THE INPUT: true; the input reads as it did. -/
def foldTellsSpec : ChangeSpec := { name := "foldTells", fn := fun _ => fun
  | [d] => { results := [.lit (.bool true)], args := [d] }
  | _ => none }
def foldTellsRow : OpenClaim := { program := "ytkhgcikaojhknaa", sum := "45da7744bde1d7362a8e0d952ea568409933221dd82eb603d9b8d09389471e83", func := "roadstead/roadlaw1.FoldTells", spec := "foldTells", unfollowed := true, recurses := true, loops := true, plainKeys := false, apart := false }
def FoldTellsSaid : Prop := foldTellsRow.holds Try.pinned (OpenSpec.ofChange foldTellsSpec)

/-- ITS FALSE NEIGHBOUR: 'it returns false'. Refute it at one input. -/
def foldTellsWrong : ChangeSpec := { name := "foldTells", fn := fun _ => fun
  | [d] => { results := [.lit (.bool false)], args := [d] }
  | _ => none }
def FoldTellsWrongFalsely : Prop := foldTellsRow.holds Try.pinned (OpenSpec.ofChange foldTellsWrong)

/-- 'roadlaw1.CodeChecks': WHATEVER THE INPUT: true; the input reads as it did. -/
def codeChecksSpec : ChangeSpec := { name := "codeChecks", fn := fun _ => fun
  | [d] => { results := [.lit (.bool true)], args := [d] }
  | _ => none }
def codeChecksRow : OpenClaim := { program := "ytkhgcikaojhknaa", sum := "45da7744bde1d7362a8e0d952ea568409933221dd82eb603d9b8d09389471e83", func := "roadstead/roadlaw1.CodeChecks", spec := "codeChecks", recurses := true, loops := true, plainKeys := false, apart := false }
def CodeChecksSaid : Prop := codeChecksRow.holds Try.pinned (OpenSpec.ofChange codeChecksSpec)

/-- ITS FALSE NEIGHBOUR: 'it returns false'. Refute it at one input. -/
def codeChecksWrong : ChangeSpec := { name := "codeChecks", fn := fun _ => fun
  | [d] => { results := [.lit (.bool false)], args := [d] }
  | _ => none }
def CodeChecksWrongFalsely : Prop := codeChecksRow.holds Try.pinned (OpenSpec.ofChange codeChecksWrong)

/-- 'roadlaw5.ValueLetters': WHATEVER THE INPUT: true; the input reads as it did. -/
def valueLettersSpec : ChangeSpec := { name := "valueLetters", fn := fun _ => fun
  | [d1, d2] => { results := [.lit (.bool true)], args := [d1, d2] }
  | _ => none }
def valueLettersRow : OpenClaim := { program := "ytkhgcikaojhknaa", sum := "45da7744bde1d7362a8e0d952ea568409933221dd82eb603d9b8d09389471e83", func := "roadstead/roadlaw5.ValueLetters", spec := "valueLetters", unfollowed := true, recurses := true, loops := true, plainKeys := false, apart := false }
def ValueLettersSaid : Prop := valueLettersRow.holds Try.pinned (OpenSpec.ofChange valueLettersSpec)

/-- ITS FALSE NEIGHBOUR: 'it returns false'. Refute it at one input. -/
def valueLettersWrong : ChangeSpec := { name := "valueLetters", fn := fun _ => fun
  | [d1, d2] => { results := [.lit (.bool false)], args := [d1, d2] }
  | _ => none }
def ValueLettersWrongFalsely : Prop := valueLettersRow.holds Try.pinned (OpenSpec.ofChange valueLettersWrong)

/-- 'roadlaw5.RenewPlan': WHATEVER THE INPUT: true; the input reads as it did. -/
def renewPlanSpec : ChangeSpec := { name := "renewPlan", fn := fun _ => fun
  | [d1, d2] => { results := [.lit (.bool true)], args := [d1, d2] }
  | _ => none }
def renewPlanRow : OpenClaim := { program := "ytkhgcikaojhknaa", sum := "45da7744bde1d7362a8e0d952ea568409933221dd82eb603d9b8d09389471e83", func := "roadstead/roadlaw5.RenewPlan", spec := "renewPlan", unfollowed := true, recurses := true, loops := true, plainKeys := false, apart := false }
def RenewPlanSaid : Prop := renewPlanRow.holds Try.pinned (OpenSpec.ofChange renewPlanSpec)

/-- ITS FALSE NEIGHBOUR: 'it returns false'. Refute it at one input. -/
def renewPlanWrong : ChangeSpec := { name := "renewPlan", fn := fun _ => fun
  | [d1, d2] => { results := [.lit (.bool false)], args := [d1, d2] }
  | _ => none }
def RenewPlanWrongFalsely : Prop := renewPlanRow.holds Try.pinned (OpenSpec.ofChange renewPlanWrong)

/-- 'roadlaw5.ValueSaved': WHATEVER THE INPUT: true; the input reads as it did. -/
def valueSavedSpec : ChangeSpec := { name := "valueSaved", fn := fun _ => fun
  | [d1, d2] => { results := [.lit (.bool true)], args := [d1, d2] }
  | _ => none }
def valueSavedRow : OpenClaim := { program := "ytkhgcikaojhknaa", sum := "45da7744bde1d7362a8e0d952ea568409933221dd82eb603d9b8d09389471e83", func := "roadstead/roadlaw5.ValueSaved", spec := "valueSaved", unfollowed := true, recurses := true, loops := true, plainKeys := false, apart := false }
def ValueSavedSaid : Prop := valueSavedRow.holds Try.pinned (OpenSpec.ofChange valueSavedSpec)

/-- ITS FALSE NEIGHBOUR: 'it returns false'. Refute it at one input. -/
def valueSavedWrong : ChangeSpec := { name := "valueSaved", fn := fun _ => fun
  | [d1, d2] => { results := [.lit (.bool false)], args := [d1, d2] }
  | _ => none }
def ValueSavedWrongFalsely : Prop := valueSavedRow.holds Try.pinned (OpenSpec.ofChange valueSavedWrong)

/-- 'roadlaw5.StoreWritten': WHATEVER THE INPUT: true; the input reads as it did. -/
def storeWrittenSpec : ChangeSpec := { name := "storeWritten", fn := fun _ => fun
  | [d] => { results := [.lit (.bool true)], args := [d] }
  | _ => none }
def storeWrittenRow : OpenClaim := { program := "ytkhgcikaojhknaa", sum := "45da7744bde1d7362a8e0d952ea568409933221dd82eb603d9b8d09389471e83", func := "roadstead/roadlaw5.StoreWritten", spec := "storeWritten", recurses := true, loops := true, plainKeys := false, apart := false }
def StoreWrittenSaid : Prop := storeWrittenRow.holds Try.pinned (OpenSpec.ofChange storeWrittenSpec)

/-- ITS FALSE NEIGHBOUR: 'it returns false'. Refute it at one input. -/
def storeWrittenWrong : ChangeSpec := { name := "storeWritten", fn := fun _ => fun
  | [d] => { results := [.lit (.bool false)], args := [d] }
  | _ => none }
def StoreWrittenWrongFalsely : Prop := storeWrittenRow.holds Try.pinned (OpenSpec.ofChange storeWrittenWrong)

/- THE SECOND FORM. 'bulk': how many values and letters a reading holds, each counted each time it is reached (what is shared counts as often as it is met; a slice's spare places count too). A statement '..UptoSaid' is the law's where the arguments, and the package variables that the reading takes, are together of bulk at most 1048576: NARROWER than '..Said'. Prove '..Said' where nothing that the law and all that it calls make is longer than what came in: it says more and counts as full. Else prove '..UptoSaid'. A law counts once. -/
mutual
def uptoBulk {H : Type} : DataW H → Nat
  | .lit (.string bytes) => bytes.length + 1
  | .lit _ => 1
  | .nil => 1
  | .ptr d => uptoBulk d + 1
  | .slice elems spare => uptoBulkAll elems + uptoBulkAll spare + 1
  | .agg parts => uptoBulkAll parts + 1
  | .iface _ d => uptoBulk d + 1
  | .map entries => uptoBulkEntries entries + 1
  | .held _ => 1
def uptoBulkAll {H : Type} : List (DataW H) → Nat
  | [] => 0
  | d :: r => uptoBulk d + uptoBulkAll r
def uptoBulkEntries {H : Type} : List (Lit × DataW H) → Nat
  | [] => 0
  | x :: r => uptoBulkEntry x + uptoBulkEntries r
def uptoBulkEntry {H : Type} : Lit × DataW H → Nat
  | (.string bytes, d) => bytes.length + uptoBulk d + 1
  | (_, d) => uptoBulk d + 1
 end
def uptoSmall : (H : Type) → List (DataW H) → Bool := fun _ ds => decide (uptoBulkAll ds ≤ 1048576)
def OpenSpec.upto (s : _root_.Go.ChangeSpec) : _root_.Go.OpenSpec := { _root_.Go.OpenSpec.ofChange s with cond := some uptoSmall }

/-- 'roadlaw5.ChunkShelf', WHERE WHAT IT READS IS OF BULK AT MOST 1048576: true; the input reads as it did. -/
def chunkShelfUptoRow : OpenClaim := { program := "ytkhgcikaojhknaa", sum := "45da7744bde1d7362a8e0d952ea568409933221dd82eb603d9b8d09389471e83", func := "roadstead/roadlaw5.ChunkShelf", spec := "chunkShelf", inPlace := ["internal/bytealg.IndexByte"], unfollowed := true, recurses := true, plainKeys := false, apart := false, narrowed := true }
def ChunkShelfUptoSaid : Prop := chunkShelfUptoRow.holds Try.pinned (OpenSpec.upto chunkShelfSpec)

/-- 'roadlaw1.CacheTells', WHERE WHAT IT READS IS OF BULK AT MOST 1048576: true; the input reads as it did. -/
def cacheTellsUptoRow : OpenClaim := { program := "ytkhgcikaojhknaa", sum := "45da7744bde1d7362a8e0d952ea568409933221dd82eb603d9b8d09389471e83", func := "roadstead/roadlaw1.CacheTells", spec := "cacheTells", inPlace := ["slices.overlaps[roadstead/cache.Way]"], unfollowed := true, recurses := true, loops := true, plainKeys := false, apart := false, narrowed := true }
def CacheTellsUptoSaid : Prop := cacheTellsUptoRow.holds Try.pinned (OpenSpec.upto cacheTellsSpec)

/-- 'roadlaw1.ArmsTells', WHERE WHAT IT READS IS OF BULK AT MOST 1048576: true; the input reads as it did. -/
def armsTellsUptoRow : OpenClaim := { program := "ytkhgcikaojhknaa", sum := "45da7744bde1d7362a8e0d952ea568409933221dd82eb603d9b8d09389471e83", func := "roadstead/roadlaw1.ArmsTells", spec := "armsTells", unfollowed := true, recurses := true, loops := true, plainKeys := false, apart := false, narrowed := true }
def ArmsTellsUptoSaid : Prop := armsTellsUptoRow.holds Try.pinned (OpenSpec.upto armsTellsSpec)

/-- 'roadlaw5.MoveRuns', WHERE WHAT IT READS IS OF BULK AT MOST 1048576: true; the input reads as it did. -/
def moveRunsUptoRow : OpenClaim := { program := "ytkhgcikaojhknaa", sum := "45da7744bde1d7362a8e0d952ea568409933221dd82eb603d9b8d09389471e83", func := "roadstead/roadlaw5.MoveRuns", spec := "moveRuns", unfollowed := true, recurses := true, plainKeys := false, apart := false, narrowed := true }
def MoveRunsUptoSaid : Prop := moveRunsUptoRow.holds Try.pinned (OpenSpec.upto moveRunsSpec)

/-- 'roadlaw5.MarkRuns', WHERE WHAT IT READS IS OF BULK AT MOST 1048576: true; the input reads as it did. -/
def markRunsUptoRow : OpenClaim := { program := "ytkhgcikaojhknaa", sum := "45da7744bde1d7362a8e0d952ea568409933221dd82eb603d9b8d09389471e83", func := "roadstead/roadlaw5.MarkRuns", spec := "markRuns", unfollowed := true, recurses := true, plainKeys := false, apart := false, narrowed := true }
def MarkRunsUptoSaid : Prop := markRunsUptoRow.holds Try.pinned (OpenSpec.upto markRunsSpec)

/-- 'roadlaw5.ValueRead', WHERE WHAT IT READS IS OF BULK AT MOST 1048576: true; the input reads as it did. -/
def valueReadUptoRow : OpenClaim := { program := "ytkhgcikaojhknaa", sum := "45da7744bde1d7362a8e0d952ea568409933221dd82eb603d9b8d09389471e83", func := "roadstead/roadlaw5.ValueRead", spec := "valueRead", unfollowed := true, recurses := true, plainKeys := false, apart := false, narrowed := true }
def ValueReadUptoSaid : Prop := valueReadUptoRow.holds Try.pinned (OpenSpec.upto valueReadSpec)

/-- 'roadlaw1.FoldTells', WHERE WHAT IT READS IS OF BULK AT MOST 1048576: true; the input reads as it did. -/
def foldTellsUptoRow : OpenClaim := { program := "ytkhgcikaojhknaa", sum := "45da7744bde1d7362a8e0d952ea568409933221dd82eb603d9b8d09389471e83", func := "roadstead/roadlaw1.FoldTells", spec := "foldTells", unfollowed := true, recurses := true, loops := true, plainKeys := false, apart := false, narrowed := true }
def FoldTellsUptoSaid : Prop := foldTellsUptoRow.holds Try.pinned (OpenSpec.upto foldTellsSpec)

/-- 'roadlaw1.CodeChecks', WHERE WHAT IT READS IS OF BULK AT MOST 1048576: true; the input reads as it did. -/
def codeChecksUptoRow : OpenClaim := { program := "ytkhgcikaojhknaa", sum := "45da7744bde1d7362a8e0d952ea568409933221dd82eb603d9b8d09389471e83", func := "roadstead/roadlaw1.CodeChecks", spec := "codeChecks", recurses := true, loops := true, plainKeys := false, apart := false, narrowed := true }
def CodeChecksUptoSaid : Prop := codeChecksUptoRow.holds Try.pinned (OpenSpec.upto codeChecksSpec)

/-- 'roadlaw5.ValueLetters', WHERE WHAT IT READS IS OF BULK AT MOST 1048576: true; the input reads as it did. -/
def valueLettersUptoRow : OpenClaim := { program := "ytkhgcikaojhknaa", sum := "45da7744bde1d7362a8e0d952ea568409933221dd82eb603d9b8d09389471e83", func := "roadstead/roadlaw5.ValueLetters", spec := "valueLetters", unfollowed := true, recurses := true, loops := true, plainKeys := false, apart := false, narrowed := true }
def ValueLettersUptoSaid : Prop := valueLettersUptoRow.holds Try.pinned (OpenSpec.upto valueLettersSpec)

/-- 'roadlaw5.RenewPlan', WHERE WHAT IT READS IS OF BULK AT MOST 1048576: true; the input reads as it did. -/
def renewPlanUptoRow : OpenClaim := { program := "ytkhgcikaojhknaa", sum := "45da7744bde1d7362a8e0d952ea568409933221dd82eb603d9b8d09389471e83", func := "roadstead/roadlaw5.RenewPlan", spec := "renewPlan", unfollowed := true, recurses := true, loops := true, plainKeys := false, apart := false, narrowed := true }
def RenewPlanUptoSaid : Prop := renewPlanUptoRow.holds Try.pinned (OpenSpec.upto renewPlanSpec)

/-- 'roadlaw5.ValueSaved', WHERE WHAT IT READS IS OF BULK AT MOST 1048576: true; the input reads as it did. -/
def valueSavedUptoRow : OpenClaim := { program := "ytkhgcikaojhknaa", sum := "45da7744bde1d7362a8e0d952ea568409933221dd82eb603d9b8d09389471e83", func := "roadstead/roadlaw5.ValueSaved", spec := "valueSaved", unfollowed := true, recurses := true, loops := true, plainKeys := false, apart := false, narrowed := true }
def ValueSavedUptoSaid : Prop := valueSavedUptoRow.holds Try.pinned (OpenSpec.upto valueSavedSpec)

/-- 'roadlaw5.StoreWritten', WHERE WHAT IT READS IS OF BULK AT MOST 1048576: true; the input reads as it did. -/
def storeWrittenUptoRow : OpenClaim := { program := "ytkhgcikaojhknaa", sum := "45da7744bde1d7362a8e0d952ea568409933221dd82eb603d9b8d09389471e83", func := "roadstead/roadlaw5.StoreWritten", spec := "storeWritten", recurses := true, loops := true, plainKeys := false, apart := false, narrowed := true }
def StoreWrittenUptoSaid : Prop := storeWrittenUptoRow.holds Try.pinned (OpenSpec.upto storeWrittenSpec)

end Rows
end Go.Proofs.Ytkhgcikaojhknaa
