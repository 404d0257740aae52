/-
  NARROWER THAN 'FOR EVERY INPUT', by the rows' own cells (each row's printed sentence says how): RenewBack: loops · ShapeFits: loops · RenewTurns: loops · ValueWritten: loops · ShapeLeast: loops · PageTypes: loops · SolveChecks: loops · ShapeSame: loops · CodeTells: loops.
  DERIVED. THE GIVEN ROWS OF THIS SEAT. 12 by the template 'for every input the law returns true; each argument reads behind the call as it read before'; 0 by the template 'total and deterministic' (their statements: YtomjghlaoncpbaaTotals.lean).
  GIVEN WITH THE SEED: the statements are not yours to turn. If you find one false, say at which input.
  Laid BY PROGRAM, IN A SANDBOX (cutbox-rows.mjs): the forced cells as the released guide's own fill.sh prints them over the translation 4f4fced5bec90b46… (all of the seat's roots in one cut). By AI agents, Wed Nov 11 2026. No macro, syntax, notation, axiom, sorry.
-/
import Derived.Test.YtomjghlaoncpbaaChecked
import GoSem.Claim
import GoSem.ClaimJoined
import GoSem.ClaimMapViews
import Derived.JoinedTies
import Derived.KernelRfl
namespace Go.Proofs.Ytomjghlaoncpbaa
/- THE CELL 'sum', in the pinned program and in every row, IS THE sha256 OF THE DUMP (.gsa) THAT YtomjghlaoncpbaaProg.lean LOADS. Nothing in Lean hashes anything: it is a label: what it is worth is what the hold of that sum in a sandbox is worth. -/
noncomputable def Try.pinned : Pinned := { name := "ytomjghlaoncpbaa", sum := "4f4fced5bec90b46b3a234ae4106a5003f14ba3a65a3f0c9b8e56d5a92df2d24", checked := Try.checked }
namespace Rows
def none {H : Type} : Left H := { results := [], args := [] }

/-- 'roadlaw5.ChunkCuts': WHATEVER THE INPUT: true; the input reads as it did. -/
def chunkCutsSpec : ChangeSpec := { name := "chunkCuts", fn := fun _ => fun
  | [d1, d2] => { results := [.lit (.bool true)], args := [d1, d2] }
  | _ => none }
def chunkCutsRow : OpenClaim := { program := "ytomjghlaoncpbaa", sum := "4f4fced5bec90b46b3a234ae4106a5003f14ba3a65a3f0c9b8e56d5a92df2d24", func := "roadstead/roadlaw5.ChunkCuts", spec := "chunkCuts", inPlace := ["internal/bytealg.IndexByte"], unfollowed := true, recurses := true, apart := false }
def ChunkCutsSaid : Prop := chunkCutsRow.holds Try.pinned (OpenSpec.ofChange chunkCutsSpec)

/-- ITS FALSE NEIGHBOUR: 'it returns false'. Refute it at one input. -/
def chunkCutsWrong : ChangeSpec := { name := "chunkCuts", fn := fun _ => fun
  | [d1, d2] => { results := [.lit (.bool false)], args := [d1, d2] }
  | _ => none }
def ChunkCutsWrongFalsely : Prop := chunkCutsRow.holds Try.pinned (OpenSpec.ofChange chunkCutsWrong)

/-- 'roadlaw5.RenewBack': WHATEVER THE INPUT: true; the input reads as it did. -/
def renewBackSpec : ChangeSpec := { name := "renewBack", fn := fun _ => fun
  | [d1, d2, d3] => { results := [.lit (.bool true)], args := [d1, d2, d3] }
  | _ => none }
def renewBackRow : OpenClaim := { program := "ytomjghlaoncpbaa", sum := "4f4fced5bec90b46b3a234ae4106a5003f14ba3a65a3f0c9b8e56d5a92df2d24", func := "roadstead/roadlaw5.RenewBack", spec := "renewBack", unfollowed := true, recurses := true, loops := true, apart := false }
def RenewBackSaid : Prop := renewBackRow.holds Try.pinned (OpenSpec.ofChange renewBackSpec)

/-- ITS FALSE NEIGHBOUR: 'it returns false'. Refute it at one input. -/
def renewBackWrong : ChangeSpec := { name := "renewBack", fn := fun _ => fun
  | [d1, d2, d3] => { results := [.lit (.bool false)], args := [d1, d2, d3] }
  | _ => none }
def RenewBackWrongFalsely : Prop := renewBackRow.holds Try.pinned (OpenSpec.ofChange renewBackWrong)

/-- 'roadlaw5.ShapeFits': WHATEVER THE INPUT: true; the input reads as it did. -/
def shapeFitsSpec : ChangeSpec := { name := "shapeFits", fn := fun _ => fun
  | [d1, d2, d3] => { results := [.lit (.bool true)], args := [d1, d2, d3] }
  | _ => none }
def shapeFitsRow : OpenClaim := { program := "ytomjghlaoncpbaa", sum := "4f4fced5bec90b46b3a234ae4106a5003f14ba3a65a3f0c9b8e56d5a92df2d24", func := "roadstead/roadlaw5.ShapeFits", spec := "shapeFits", unfollowed := true, recurses := true, loops := true, apart := false }
def ShapeFitsSaid : Prop := shapeFitsRow.holds Try.pinned (OpenSpec.ofChange shapeFitsSpec)

/-- ITS FALSE NEIGHBOUR: 'it returns false'. Refute it at one input. -/
def shapeFitsWrong : ChangeSpec := { name := "shapeFits", fn := fun _ => fun
  | [d1, d2, d3] => { results := [.lit (.bool false)], args := [d1, d2, d3] }
  | _ => none }
def ShapeFitsWrongFalsely : Prop := shapeFitsRow.holds Try.pinned (OpenSpec.ofChange shapeFitsWrong)

/-- 'roadlaw5.RenewTurns': WHATEVER THE INPUT: true; the input reads as it did. -/
def renewTurnsSpec : ChangeSpec := { name := "renewTurns", fn := fun _ => fun
  | [d1, d2] => { results := [.lit (.bool true)], args := [d1, d2] }
  | _ => none }
def renewTurnsRow : OpenClaim := { program := "ytomjghlaoncpbaa", sum := "4f4fced5bec90b46b3a234ae4106a5003f14ba3a65a3f0c9b8e56d5a92df2d24", func := "roadstead/roadlaw5.RenewTurns", spec := "renewTurns", unfollowed := true, recurses := true, loops := true, apart := false }
def RenewTurnsSaid : Prop := renewTurnsRow.holds Try.pinned (OpenSpec.ofChange renewTurnsSpec)

/-- ITS FALSE NEIGHBOUR: 'it returns false'. Refute it at one input. -/
def renewTurnsWrong : ChangeSpec := { name := "renewTurns", fn := fun _ => fun
  | [d1, d2] => { results := [.lit (.bool false)], args := [d1, d2] }
  | _ => none }
def RenewTurnsWrongFalsely : Prop := renewTurnsRow.holds Try.pinned (OpenSpec.ofChange renewTurnsWrong)

/-- 'roadlaw5.MarkSides': WHATEVER THE INPUT: true; the input reads as it did. -/
def markSidesSpec : ChangeSpec := { name := "markSides", fn := fun _ => fun
  | [d1, d2] => { results := [.lit (.bool true)], args := [d1, d2] }
  | _ => none }
def markSidesRow : OpenClaim := { program := "ytomjghlaoncpbaa", sum := "4f4fced5bec90b46b3a234ae4106a5003f14ba3a65a3f0c9b8e56d5a92df2d24", func := "roadstead/roadlaw5.MarkSides", spec := "markSides", apart := false }
def MarkSidesSaid : Prop := markSidesRow.holds Try.pinned (OpenSpec.ofChange markSidesSpec)

/-- ITS FALSE NEIGHBOUR: 'it returns false'. Refute it at one input. -/
def markSidesWrong : ChangeSpec := { name := "markSides", fn := fun _ => fun
  | [d1, d2] => { results := [.lit (.bool false)], args := [d1, d2] }
  | _ => none }
def MarkSidesWrongFalsely : Prop := markSidesRow.holds Try.pinned (OpenSpec.ofChange markSidesWrong)

/-- 'roadlaw5.ValueWritten': WHATEVER THE INPUT: true; the input reads as it did. -/
def valueWrittenSpec : ChangeSpec := { name := "valueWritten", fn := fun _ => fun
  | [d] => { results := [.lit (.bool true)], args := [d] }
  | _ => none }
def valueWrittenRow : OpenClaim := { program := "ytomjghlaoncpbaa", sum := "4f4fced5bec90b46b3a234ae4106a5003f14ba3a65a3f0c9b8e56d5a92df2d24", func := "roadstead/roadlaw5.ValueWritten", spec := "valueWritten", recurses := true, loops := true, apart := false }
def ValueWrittenSaid : Prop := valueWrittenRow.holds Try.pinned (OpenSpec.ofChange valueWrittenSpec)

/-- ITS FALSE NEIGHBOUR: 'it returns false'. Refute it at one input. -/
def valueWrittenWrong : ChangeSpec := { name := "valueWritten", fn := fun _ => fun
  | [d] => { results := [.lit (.bool false)], args := [d] }
  | _ => none }
def ValueWrittenWrongFalsely : Prop := valueWrittenRow.holds Try.pinned (OpenSpec.ofChange valueWrittenWrong)

/-- 'roadlaw5.ShapeLeast': WHATEVER THE INPUT: true; the input reads as it did. -/
def shapeLeastSpec : ChangeSpec := { name := "shapeLeast", fn := fun _ => fun
  | [d1, d2] => { results := [.lit (.bool true)], args := [d1, d2] }
  | _ => none }
def shapeLeastRow : OpenClaim := { program := "ytomjghlaoncpbaa", sum := "4f4fced5bec90b46b3a234ae4106a5003f14ba3a65a3f0c9b8e56d5a92df2d24", func := "roadstead/roadlaw5.ShapeLeast", spec := "shapeLeast", unfollowed := true, recurses := true, loops := true, apart := false }
def ShapeLeastSaid : Prop := shapeLeastRow.holds Try.pinned (OpenSpec.ofChange shapeLeastSpec)

/-- ITS FALSE NEIGHBOUR: 'it returns false'. Refute it at one input. -/
def shapeLeastWrong : ChangeSpec := { name := "shapeLeast", fn := fun _ => fun
  | [d1, d2] => { results := [.lit (.bool false)], args := [d1, d2] }
  | _ => none }
def ShapeLeastWrongFalsely : Prop := shapeLeastRow.holds Try.pinned (OpenSpec.ofChange shapeLeastWrong)

/-- 'roadlaw5.PageTypes': WHATEVER THE INPUT: true; the input reads as it did. -/
def pageTypesSpec : ChangeSpec := { name := "pageTypes", fn := fun _ => fun
  | [d] => { results := [.lit (.bool true)], args := [d] }
  | _ => none }
def pageTypesRow : OpenClaim := { program := "ytomjghlaoncpbaa", sum := "4f4fced5bec90b46b3a234ae4106a5003f14ba3a65a3f0c9b8e56d5a92df2d24", func := "roadstead/roadlaw5.PageTypes", spec := "pageTypes", inPlace := ["internal/abi.NoEscape", "internal/bytealg.MakeNoZero"], unfollowed := true, recurses := true, loops := true, apart := false }
def PageTypesSaid : Prop := pageTypesRow.holds Try.pinned (OpenSpec.ofChange pageTypesSpec)

/-- ITS FALSE NEIGHBOUR: 'it returns false'. Refute it at one input. -/
def pageTypesWrong : ChangeSpec := { name := "pageTypes", fn := fun _ => fun
  | [d] => { results := [.lit (.bool false)], args := [d] }
  | _ => none }
def PageTypesWrongFalsely : Prop := pageTypesRow.holds Try.pinned (OpenSpec.ofChange pageTypesWrong)

/-- 'roadlaw5.SolveChecks': WHATEVER THE INPUT: true; the input reads as it did. -/
def solveChecksSpec : ChangeSpec := { name := "solveChecks", fn := fun _ => fun
  | [d1, d2, d3] => { results := [.lit (.bool true)], args := [d1, d2, d3] }
  | _ => none }
def solveChecksRow : OpenClaim := { program := "ytomjghlaoncpbaa", sum := "4f4fced5bec90b46b3a234ae4106a5003f14ba3a65a3f0c9b8e56d5a92df2d24", func := "roadstead/roadlaw5.SolveChecks", spec := "solveChecks", inPlace := ["internal/bytealg.abigen_runtime_cmpstring"], loops := true, apart := false }
def SolveChecksSaid : Prop := solveChecksRow.holds Try.pinned (OpenSpec.ofChange solveChecksSpec)

/-- ITS FALSE NEIGHBOUR: 'it returns false'. Refute it at one input. -/
def solveChecksWrong : ChangeSpec := { name := "solveChecks", fn := fun _ => fun
  | [d1, d2, d3] => { results := [.lit (.bool false)], args := [d1, d2, d3] }
  | _ => none }
def SolveChecksWrongFalsely : Prop := solveChecksRow.holds Try.pinned (OpenSpec.ofChange solveChecksWrong)

/-- 'roadlaw5.ShapeSame': WHATEVER THE INPUT: true; the input reads as it did. -/
def shapeSameSpec : ChangeSpec := { name := "shapeSame", fn := fun _ => fun
  | [d1, d2, d3, d4] => { results := [.lit (.bool true)], args := [d1, d2, d3, d4] }
  | _ => none }
def shapeSameRow : OpenClaim := { program := "ytomjghlaoncpbaa", sum := "4f4fced5bec90b46b3a234ae4106a5003f14ba3a65a3f0c9b8e56d5a92df2d24", func := "roadstead/roadlaw5.ShapeSame", spec := "shapeSame", unfollowed := true, recurses := true, loops := true, apart := false }
def ShapeSameSaid : Prop := shapeSameRow.holds Try.pinned (OpenSpec.ofChange shapeSameSpec)

/-- ITS FALSE NEIGHBOUR: 'it returns false'. Refute it at one input. -/
def shapeSameWrong : ChangeSpec := { name := "shapeSame", fn := fun _ => fun
  | [d1, d2, d3, d4] => { results := [.lit (.bool false)], args := [d1, d2, d3, d4] }
  | _ => none }
def ShapeSameWrongFalsely : Prop := shapeSameRow.holds Try.pinned (OpenSpec.ofChange shapeSameWrong)

/-- 'roadlaw1.CodeTells': WHATEVER THE INPUT: true; the input reads as it did. -/
def codeTellsSpec : ChangeSpec := { name := "codeTells", fn := fun _ => fun
  | [d1, d2, d3, d4] => { results := [.lit (.bool true)], args := [d1, d2, d3, d4] }
  | _ => none }
def codeTellsRow : OpenClaim := { program := "ytomjghlaoncpbaa", sum := "4f4fced5bec90b46b3a234ae4106a5003f14ba3a65a3f0c9b8e56d5a92df2d24", func := "roadstead/roadlaw1.CodeTells", spec := "codeTells", unfollowed := true, recurses := true, loops := true, apart := false }
def CodeTellsSaid : Prop := codeTellsRow.holds Try.pinned (OpenSpec.ofChange codeTellsSpec)

/-- ITS FALSE NEIGHBOUR: 'it returns false'. Refute it at one input. -/
def codeTellsWrong : ChangeSpec := { name := "codeTells", fn := fun _ => fun
  | [d1, d2, d3, d4] => { results := [.lit (.bool false)], args := [d1, d2, d3, d4] }
  | _ => none }
def CodeTellsWrongFalsely : Prop := codeTellsRow.holds Try.pinned (OpenSpec.ofChange codeTellsWrong)

/-- 'roadlaw5.SolveRight': WHATEVER THE INPUT: true; the input reads as it did. -/
def solveRightSpec : ChangeSpec := { name := "solveRight", fn := fun _ => fun
  | [d1, d2, d3] => { results := [.lit (.bool true)], args := [d1, d2, d3] }
  | _ => none }
def solveRightRow : OpenClaim := { program := "ytomjghlaoncpbaa", sum := "4f4fced5bec90b46b3a234ae4106a5003f14ba3a65a3f0c9b8e56d5a92df2d24", func := "roadstead/roadlaw5.SolveRight", spec := "solveRight", inPlace := ["internal/bytealg.abigen_runtime_cmpstring"], unfollowed := true, recurses := true, apart := false }
def SolveRightSaid : Prop := solveRightRow.holds Try.pinned (OpenSpec.ofChange solveRightSpec)

/-- ITS FALSE NEIGHBOUR: 'it returns false'. Refute it at one input. -/
def solveRightWrong : ChangeSpec := { name := "solveRight", fn := fun _ => fun
  | [d1, d2, d3] => { results := [.lit (.bool false)], args := [d1, d2, d3] }
  | _ => none }
def SolveRightWrongFalsely : Prop := solveRightRow.holds Try.pinned (OpenSpec.ofChange solveRightWrong)

/- THE SECOND FORM. 'bulk': how many values and letters a reading holds, each counted each time it is reached (what is shared counts as often as it is met; a slice's spare places count too). A statement '..UptoSaid' is the law's where the arguments, and the package variables that the reading takes, are together of bulk at most 1048576: NARROWER than '..Said'. Prove '..Said' where nothing that the law and all that it calls make is longer than what came in: it says more and counts as full. Else prove '..UptoSaid'. A law counts once. -/
mutual
def uptoBulk {H : Type} : DataW H → Nat
  | .lit (.string bytes) => bytes.length + 1
  | .lit _ => 1
  | .nil => 1
  | .ptr d => uptoBulk d + 1
  | .slice elems spare => uptoBulkAll elems + uptoBulkAll spare + 1
  | .agg parts => uptoBulkAll parts + 1
  | .iface _ d => uptoBulk d + 1
  | .map entries => uptoBulkEntries entries + 1
  | .held _ => 1
def uptoBulkAll {H : Type} : List (DataW H) → Nat
  | [] => 0
  | d :: r => uptoBulk d + uptoBulkAll r
def uptoBulkEntries {H : Type} : List (Lit × DataW H) → Nat
  | [] => 0
  | x :: r => uptoBulkEntry x + uptoBulkEntries r
def uptoBulkEntry {H : Type} : Lit × DataW H → Nat
  | (.string bytes, d) => bytes.length + uptoBulk d + 1
  | (_, d) => uptoBulk d + 1
 end
def uptoSmall : (H : Type) → List (DataW H) → Bool := fun _ ds => decide (uptoBulkAll ds ≤ 1048576)
def OpenSpec.upto (s : _root_.Go.ChangeSpec) : _root_.Go.OpenSpec := { _root_.Go.OpenSpec.ofChange s with cond := some uptoSmall }

/-- 'roadlaw5.ChunkCuts', WHERE WHAT IT READS IS OF BULK AT MOST 1048576: true; the input reads as it did. -/
def chunkCutsUptoRow : OpenClaim := { program := "ytomjghlaoncpbaa", sum := "4f4fced5bec90b46b3a234ae4106a5003f14ba3a65a3f0c9b8e56d5a92df2d24", func := "roadstead/roadlaw5.ChunkCuts", spec := "chunkCuts", inPlace := ["internal/bytealg.IndexByte"], unfollowed := true, recurses := true, apart := false, narrowed := true }
def ChunkCutsUptoSaid : Prop := chunkCutsUptoRow.holds Try.pinned (OpenSpec.upto chunkCutsSpec)

/-- 'roadlaw5.RenewBack', WHERE WHAT IT READS IS OF BULK AT MOST 1048576: true; the input reads as it did. -/
def renewBackUptoRow : OpenClaim := { program := "ytomjghlaoncpbaa", sum := "4f4fced5bec90b46b3a234ae4106a5003f14ba3a65a3f0c9b8e56d5a92df2d24", func := "roadstead/roadlaw5.RenewBack", spec := "renewBack", unfollowed := true, recurses := true, loops := true, apart := false, narrowed := true }
def RenewBackUptoSaid : Prop := renewBackUptoRow.holds Try.pinned (OpenSpec.upto renewBackSpec)

/-- 'roadlaw5.ShapeFits', WHERE WHAT IT READS IS OF BULK AT MOST 1048576: true; the input reads as it did. -/
def shapeFitsUptoRow : OpenClaim := { program := "ytomjghlaoncpbaa", sum := "4f4fced5bec90b46b3a234ae4106a5003f14ba3a65a3f0c9b8e56d5a92df2d24", func := "roadstead/roadlaw5.ShapeFits", spec := "shapeFits", unfollowed := true, recurses := true, loops := true, apart := false, narrowed := true }
def ShapeFitsUptoSaid : Prop := shapeFitsUptoRow.holds Try.pinned (OpenSpec.upto shapeFitsSpec)

/-- 'roadlaw5.RenewTurns', WHERE WHAT IT READS IS OF BULK AT MOST 1048576: true; the input reads as it did. -/
def renewTurnsUptoRow : OpenClaim := { program := "ytomjghlaoncpbaa", sum := "4f4fced5bec90b46b3a234ae4106a5003f14ba3a65a3f0c9b8e56d5a92df2d24", func := "roadstead/roadlaw5.RenewTurns", spec := "renewTurns", unfollowed := true, recurses := true, loops := true, apart := false, narrowed := true }
def RenewTurnsUptoSaid : Prop := renewTurnsUptoRow.holds Try.pinned (OpenSpec.upto renewTurnsSpec)

/-- 'roadlaw5.MarkSides', WHERE WHAT IT READS IS OF BULK AT MOST 1048576: true; the input reads as it did. -/
def markSidesUptoRow : OpenClaim := { program := "ytomjghlaoncpbaa", sum := "4f4fced5bec90b46b3a234ae4106a5003f14ba3a65a3f0c9b8e56d5a92df2d24", func := "roadstead/roadlaw5.MarkSides", spec := "markSides", apart := false, narrowed := true }
def MarkSidesUptoSaid : Prop := markSidesUptoRow.holds Try.pinned (OpenSpec.upto markSidesSpec)

/-- 'roadlaw5.ValueWritten', WHERE WHAT IT READS IS OF BULK AT MOST 1048576: true; the input reads as it did. -/
def valueWrittenUptoRow : OpenClaim := { program := "ytomjghlaoncpbaa", sum := "4f4fced5bec90b46b3a234ae4106a5003f14ba3a65a3f0c9b8e56d5a92df2d24", func := "roadstead/roadlaw5.ValueWritten", spec := "valueWritten", recurses := true, loops := true, apart := false, narrowed := true }
def ValueWrittenUptoSaid : Prop := valueWrittenUptoRow.holds Try.pinned (OpenSpec.upto valueWrittenSpec)

/-- 'roadlaw5.ShapeLeast', WHERE WHAT IT READS IS OF BULK AT MOST 1048576: true; the input reads as it did. -/
def shapeLeastUptoRow : OpenClaim := { program := "ytomjghlaoncpbaa", sum := "4f4fced5bec90b46b3a234ae4106a5003f14ba3a65a3f0c9b8e56d5a92df2d24", func := "roadstead/roadlaw5.ShapeLeast", spec := "shapeLeast", unfollowed := true, recurses := true, loops := true, apart := false, narrowed := true }
def ShapeLeastUptoSaid : Prop := shapeLeastUptoRow.holds Try.pinned (OpenSpec.upto shapeLeastSpec)

/-- 'roadlaw5.PageTypes', WHERE WHAT IT READS IS OF BULK AT MOST 1048576: true; the input reads as it did. -/
def pageTypesUptoRow : OpenClaim := { program := "ytomjghlaoncpbaa", sum := "4f4fced5bec90b46b3a234ae4106a5003f14ba3a65a3f0c9b8e56d5a92df2d24", func := "roadstead/roadlaw5.PageTypes", spec := "pageTypes", inPlace := ["internal/abi.NoEscape", "internal/bytealg.MakeNoZero"], unfollowed := true, recurses := true, loops := true, apart := false, narrowed := true }
def PageTypesUptoSaid : Prop := pageTypesUptoRow.holds Try.pinned (OpenSpec.upto pageTypesSpec)

/-- 'roadlaw5.SolveChecks', WHERE WHAT IT READS IS OF BULK AT MOST 1048576: true; the input reads as it did. -/
def solveChecksUptoRow : OpenClaim := { program := "ytomjghlaoncpbaa", sum := "4f4fced5bec90b46b3a234ae4106a5003f14ba3a65a3f0c9b8e56d5a92df2d24", func := "roadstead/roadlaw5.SolveChecks", spec := "solveChecks", inPlace := ["internal/bytealg.abigen_runtime_cmpstring"], loops := true, apart := false, narrowed := true }
def SolveChecksUptoSaid : Prop := solveChecksUptoRow.holds Try.pinned (OpenSpec.upto solveChecksSpec)

/-- 'roadlaw5.ShapeSame', WHERE WHAT IT READS IS OF BULK AT MOST 1048576: true; the input reads as it did. -/
def shapeSameUptoRow : OpenClaim := { program := "ytomjghlaoncpbaa", sum := "4f4fced5bec90b46b3a234ae4106a5003f14ba3a65a3f0c9b8e56d5a92df2d24", func := "roadstead/roadlaw5.ShapeSame", spec := "shapeSame", unfollowed := true, recurses := true, loops := true, apart := false, narrowed := true }
def ShapeSameUptoSaid : Prop := shapeSameUptoRow.holds Try.pinned (OpenSpec.upto shapeSameSpec)

/-- 'roadlaw1.CodeTells', WHERE WHAT IT READS IS OF BULK AT MOST 1048576: true; the input reads as it did. -/
def codeTellsUptoRow : OpenClaim := { program := "ytomjghlaoncpbaa", sum := "4f4fced5bec90b46b3a234ae4106a5003f14ba3a65a3f0c9b8e56d5a92df2d24", func := "roadstead/roadlaw1.CodeTells", spec := "codeTells", unfollowed := true, recurses := true, loops := true, apart := false, narrowed := true }
def CodeTellsUptoSaid : Prop := codeTellsUptoRow.holds Try.pinned (OpenSpec.upto codeTellsSpec)

/-- 'roadlaw5.SolveRight', WHERE WHAT IT READS IS OF BULK AT MOST 1048576: true; the input reads as it did. -/
def solveRightUptoRow : OpenClaim := { program := "ytomjghlaoncpbaa", sum := "4f4fced5bec90b46b3a234ae4106a5003f14ba3a65a3f0c9b8e56d5a92df2d24", func := "roadstead/roadlaw5.SolveRight", spec := "solveRight", inPlace := ["internal/bytealg.abigen_runtime_cmpstring"], unfollowed := true, recurses := true, apart := false, narrowed := true }
def SolveRightUptoSaid : Prop := solveRightUptoRow.holds Try.pinned (OpenSpec.upto solveRightSpec)

end Rows
end Go.Proofs.Ytomjghlaoncpbaa
