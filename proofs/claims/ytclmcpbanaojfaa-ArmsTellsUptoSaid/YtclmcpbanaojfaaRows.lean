/-
  NARROWER THAN 'FOR EVERY INPUT', by the rows' own cells (each row's printed sentence says how): ShapeSame: loops · CacheTells: loops · ArmsTells: loops · RenewPlan: loops · PackTells: loops.
  DERIVED. THE GIVEN ROWS OF THIS SEAT. 10 by the template 'for every input the law returns true; each argument reads behind the call as it read before'; 0 by the template 'total and deterministic' (their statements: YtclmcpbanaojfaaTotals.lean).
  GIVEN WITH THE SEED: the statements are not yours to turn. If you find one false, say at which input.
  Laid BY PROGRAM, IN A SANDBOX (cutbox-rows.mjs): the forced cells as the released guide's own fill.sh prints them over the translation a68265fb47d0256f… (all of the seat's roots in one cut). By AI agents, Wed Nov 11 2026. No macro, syntax, notation, axiom, sorry.
-/
import Derived.Test.YtclmcpbanaojfaaChecked
import GoSem.Claim
import GoSem.ClaimJoined
import GoSem.ClaimMapViews
import Derived.JoinedTies
import Derived.KernelRfl
namespace Go.Proofs.Ytclmcpbanaojfaa
/- THE CELL 'sum', in the pinned program and in every row, IS THE sha256 OF THE DUMP (.gsa) THAT YtclmcpbanaojfaaProg.lean LOADS. Nothing in Lean hashes anything: it is a label: what it is worth is what the hold of that sum in a sandbox is worth. -/
noncomputable def Try.pinned : Pinned := { name := "ytclmcpbanaojfaa", sum := "a68265fb47d0256f6ce2ac82b4e65cb74a3b85dbfcc1dd1eb6072e3a47db991d", checked := Try.checked }
namespace Rows
def none {H : Type} : Left H := { results := [], args := [] }

/-- 'roadlaw5.ShapeSame': WHATEVER THE INPUT: true; the input reads as it did. -/
def shapeSameSpec : ChangeSpec := { name := "shapeSame", fn := fun _ => fun
  | [d1, d2, d3, d4] => { results := [.lit (.bool true)], args := [d1, d2, d3, d4] }
  | _ => none }
def shapeSameRow : OpenClaim := { program := "ytclmcpbanaojfaa", sum := "a68265fb47d0256f6ce2ac82b4e65cb74a3b85dbfcc1dd1eb6072e3a47db991d", func := "roadstead/roadlaw5.ShapeSame", spec := "shapeSame", unfollowed := true, recurses := true, loops := true, plainKeys := false, apart := false }
def ShapeSameSaid : Prop := shapeSameRow.holds Try.pinned (OpenSpec.ofChange shapeSameSpec)

/-- ITS FALSE NEIGHBOUR: 'it returns false'. Refute it at one input. -/
def shapeSameWrong : ChangeSpec := { name := "shapeSame", fn := fun _ => fun
  | [d1, d2, d3, d4] => { results := [.lit (.bool false)], args := [d1, d2, d3, d4] }
  | _ => none }
def ShapeSameWrongFalsely : Prop := shapeSameRow.holds Try.pinned (OpenSpec.ofChange shapeSameWrong)

/-- 'roadlaw5.ChunkShelf': WHATEVER THE INPUT: true; the input reads as it did. -/
def chunkShelfSpec : ChangeSpec := { name := "chunkShelf", fn := fun _ => fun
  | [d] => { results := [.lit (.bool true)], args := [d] }
  | _ => none }
def chunkShelfRow : OpenClaim := { program := "ytclmcpbanaojfaa", sum := "a68265fb47d0256f6ce2ac82b4e65cb74a3b85dbfcc1dd1eb6072e3a47db991d", func := "roadstead/roadlaw5.ChunkShelf", spec := "chunkShelf", inPlace := ["internal/bytealg.IndexByte"], unfollowed := true, recurses := true, plainKeys := false, apart := false }
def ChunkShelfSaid : Prop := chunkShelfRow.holds Try.pinned (OpenSpec.ofChange chunkShelfSpec)

/-- ITS FALSE NEIGHBOUR: 'it returns false'. Refute it at one input. -/
def chunkShelfWrong : ChangeSpec := { name := "chunkShelf", fn := fun _ => fun
  | [d] => { results := [.lit (.bool false)], args := [d] }
  | _ => none }
def ChunkShelfWrongFalsely : Prop := chunkShelfRow.holds Try.pinned (OpenSpec.ofChange chunkShelfWrong)

/-- 'roadlaw1.CacheTells': WHATEVER THE INPUT: true; the input reads as it did. -/
def cacheTellsSpec : ChangeSpec := { name := "cacheTells", fn := fun _ => fun
  | [d1, d2] => { results := [.lit (.bool true)], args := [d1, d2] }
  | _ => none }
def cacheTellsRow : OpenClaim := { program := "ytclmcpbanaojfaa", sum := "a68265fb47d0256f6ce2ac82b4e65cb74a3b85dbfcc1dd1eb6072e3a47db991d", func := "roadstead/roadlaw1.CacheTells", spec := "cacheTells", inPlace := ["slices.overlaps[roadstead/cache.Way]"], unfollowed := true, recurses := true, loops := true, plainKeys := false, apart := false }
def CacheTellsSaid : Prop := cacheTellsRow.holds Try.pinned (OpenSpec.ofChange cacheTellsSpec)

/-- ITS FALSE NEIGHBOUR: 'it returns false'. Refute it at one input. -/
def cacheTellsWrong : ChangeSpec := { name := "cacheTells", fn := fun _ => fun
  | [d1, d2] => { results := [.lit (.bool false)], args := [d1, d2] }
  | _ => none }
def CacheTellsWrongFalsely : Prop := cacheTellsRow.holds Try.pinned (OpenSpec.ofChange cacheTellsWrong)

/-- 'roadlaw1.ArmsTells': WHATEVER THE INPUT: true; the input reads as it did. -/
def armsTellsSpec : ChangeSpec := { name := "armsTells", fn := fun _ => fun
  | [d1, d2] => { results := [.lit (.bool true)], args := [d1, d2] }
  | _ => none }
def armsTellsRow : OpenClaim := { program := "ytclmcpbanaojfaa", sum := "a68265fb47d0256f6ce2ac82b4e65cb74a3b85dbfcc1dd1eb6072e3a47db991d", func := "roadstead/roadlaw1.ArmsTells", spec := "armsTells", unfollowed := true, recurses := true, loops := true, plainKeys := false, apart := false }
def ArmsTellsSaid : Prop := armsTellsRow.holds Try.pinned (OpenSpec.ofChange armsTellsSpec)

/-- ITS FALSE NEIGHBOUR: 'it returns false'. Refute it at one input. -/
def armsTellsWrong : ChangeSpec := { name := "armsTells", fn := fun _ => fun
  | [d1, d2] => { results := [.lit (.bool false)], args := [d1, d2] }
  | _ => none }
def ArmsTellsWrongFalsely : Prop := armsTellsRow.holds Try.pinned (OpenSpec.ofChange armsTellsWrong)

/-- 'roadlaw5.MoveRuns': WHATEVER THE INPUT: true; the input reads as it did. -/
def moveRunsSpec : ChangeSpec := { name := "moveRuns", fn := fun _ => fun
  | [d1, d2, d3] => { results := [.lit (.bool true)], args := [d1, d2, d3] }
  | _ => none }
def moveRunsRow : OpenClaim := { program := "ytclmcpbanaojfaa", sum := "a68265fb47d0256f6ce2ac82b4e65cb74a3b85dbfcc1dd1eb6072e3a47db991d", func := "roadstead/roadlaw5.MoveRuns", spec := "moveRuns", unfollowed := true, recurses := true, plainKeys := false, apart := false }
def MoveRunsSaid : Prop := moveRunsRow.holds Try.pinned (OpenSpec.ofChange moveRunsSpec)

/-- ITS FALSE NEIGHBOUR: 'it returns false'. Refute it at one input. -/
def moveRunsWrong : ChangeSpec := { name := "moveRuns", fn := fun _ => fun
  | [d1, d2, d3] => { results := [.lit (.bool false)], args := [d1, d2, d3] }
  | _ => none }
def MoveRunsWrongFalsely : Prop := moveRunsRow.holds Try.pinned (OpenSpec.ofChange moveRunsWrong)

/-- 'roadlaw5.MarkRuns': WHATEVER THE INPUT: true; the input reads as it did. -/
def markRunsSpec : ChangeSpec := { name := "markRuns", fn := fun _ => fun
  | [d1, d2] => { results := [.lit (.bool true)], args := [d1, d2] }
  | _ => none }
def markRunsRow : OpenClaim := { program := "ytclmcpbanaojfaa", sum := "a68265fb47d0256f6ce2ac82b4e65cb74a3b85dbfcc1dd1eb6072e3a47db991d", func := "roadstead/roadlaw5.MarkRuns", spec := "markRuns", unfollowed := true, recurses := true, plainKeys := false, apart := false }
def MarkRunsSaid : Prop := markRunsRow.holds Try.pinned (OpenSpec.ofChange markRunsSpec)

/-- ITS FALSE NEIGHBOUR: 'it returns false'. Refute it at one input. -/
def markRunsWrong : ChangeSpec := { name := "markRuns", fn := fun _ => fun
  | [d1, d2] => { results := [.lit (.bool false)], args := [d1, d2] }
  | _ => none }
def MarkRunsWrongFalsely : Prop := markRunsRow.holds Try.pinned (OpenSpec.ofChange markRunsWrong)

/-- 'roadlaw5.RenewPlan': WHATEVER THE INPUT: true; the input reads as it did. -/
def renewPlanSpec : ChangeSpec := { name := "renewPlan", fn := fun _ => fun
  | [d1, d2] => { results := [.lit (.bool true)], args := [d1, d2] }
  | _ => none }
def renewPlanRow : OpenClaim := { program := "ytclmcpbanaojfaa", sum := "a68265fb47d0256f6ce2ac82b4e65cb74a3b85dbfcc1dd1eb6072e3a47db991d", func := "roadstead/roadlaw5.RenewPlan", spec := "renewPlan", unfollowed := true, recurses := true, loops := true, plainKeys := false, apart := false }
def RenewPlanSaid : Prop := renewPlanRow.holds Try.pinned (OpenSpec.ofChange renewPlanSpec)

/-- ITS FALSE NEIGHBOUR: 'it returns false'. Refute it at one input. -/
def renewPlanWrong : ChangeSpec := { name := "renewPlan", fn := fun _ => fun
  | [d1, d2] => { results := [.lit (.bool false)], args := [d1, d2] }
  | _ => none }
def RenewPlanWrongFalsely : Prop := renewPlanRow.holds Try.pinned (OpenSpec.ofChange renewPlanWrong)

/-- 'roadlaw5.LayoutLays': WHATEVER THE INPUT: true; the input reads as it did. -/
def layoutLaysSpec : ChangeSpec := { name := "layoutLays", fn := fun _ => fun
  | [d1, d2] => { results := [.lit (.bool true)], args := [d1, d2] }
  | _ => none }
def layoutLaysRow : OpenClaim := { program := "ytclmcpbanaojfaa", sum := "a68265fb47d0256f6ce2ac82b4e65cb74a3b85dbfcc1dd1eb6072e3a47db991d", func := "roadstead/roadlaw5.LayoutLays", spec := "layoutLays", inPlace := ["internal/bytealg.IndexByteString", "internal/bytealg.IndexString", "internal/abi.NoEscape", "internal/bytealg.MakeNoZero"], recurses := true, named := ["internal/bytealg.MaxLen"], plainKeys := false, apart := false }
def LayoutLaysSaid : Prop := layoutLaysRow.holds Try.pinned (OpenSpec.ofChange layoutLaysSpec)

/-- ITS FALSE NEIGHBOUR: 'it returns false'. Refute it at one input. -/
def layoutLaysWrong : ChangeSpec := { name := "layoutLays", fn := fun _ => fun
  | [d1, d2] => { results := [.lit (.bool false)], args := [d1, d2] }
  | _ => none }
def LayoutLaysWrongFalsely : Prop := layoutLaysRow.holds Try.pinned (OpenSpec.ofChange layoutLaysWrong)

/-- 'roadlaw1.PackTells': WHATEVER THE INPUT: true; the input reads as it did. -/
def packTellsSpec : ChangeSpec := { name := "packTells", fn := fun _ => fun
  | [d] => { results := [.lit (.bool true)], args := [d] }
  | _ => none }
def packTellsRow : OpenClaim := { program := "ytclmcpbanaojfaa", sum := "a68265fb47d0256f6ce2ac82b4e65cb74a3b85dbfcc1dd1eb6072e3a47db991d", func := "roadstead/roadlaw1.PackTells", spec := "packTells", unfollowed := true, recurses := true, loops := true, plainKeys := false, apart := false }
def PackTellsSaid : Prop := packTellsRow.holds Try.pinned (OpenSpec.ofChange packTellsSpec)

/-- ITS FALSE NEIGHBOUR: 'it returns false'. Refute it at one input. -/
def packTellsWrong : ChangeSpec := { name := "packTells", fn := fun _ => fun
  | [d] => { results := [.lit (.bool false)], args := [d] }
  | _ => none }
def PackTellsWrongFalsely : Prop := packTellsRow.holds Try.pinned (OpenSpec.ofChange packTellsWrong)

/-- 'roadlaw1.LiveTells': WHATEVER THE INPUT: true; the input reads as it did. -/
def liveTellsSpec : ChangeSpec := { name := "liveTells", fn := fun _ => fun
  | [d] => { results := [.lit (.bool true)], args := [d] }
  | _ => none }
def liveTellsRow : OpenClaim := { program := "ytclmcpbanaojfaa", sum := "a68265fb47d0256f6ce2ac82b4e65cb74a3b85dbfcc1dd1eb6072e3a47db991d", func := "roadstead/roadlaw1.LiveTells", spec := "liveTells", unfollowed := true, recurses := true, plainKeys := false, apart := false }
def LiveTellsSaid : Prop := liveTellsRow.holds Try.pinned (OpenSpec.ofChange liveTellsSpec)

/-- ITS FALSE NEIGHBOUR: 'it returns false'. Refute it at one input. -/
def liveTellsWrong : ChangeSpec := { name := "liveTells", fn := fun _ => fun
  | [d] => { results := [.lit (.bool false)], args := [d] }
  | _ => none }
def LiveTellsWrongFalsely : Prop := liveTellsRow.holds Try.pinned (OpenSpec.ofChange liveTellsWrong)

/- THE SECOND FORM. 'bulk': how many values and letters a reading holds, each counted each time it is reached (what is shared counts as often as it is met; a slice's spare places count too). A statement '..UptoSaid' is the law's where the arguments, and the package variables that the reading takes, are together of bulk at most 1048576: NARROWER than '..Said'. Prove '..Said' where nothing that the law and all that it calls make is longer than what came in: it says more and counts as full. Else prove '..UptoSaid'. A law counts once. -/
mutual
def uptoBulk {H : Type} : DataW H → Nat
  | .lit (.string bytes) => bytes.length + 1
  | .lit _ => 1
  | .nil => 1
  | .ptr d => uptoBulk d + 1
  | .slice elems spare => uptoBulkAll elems + uptoBulkAll spare + 1
  | .agg parts => uptoBulkAll parts + 1
  | .iface _ d => uptoBulk d + 1
  | .map entries => uptoBulkEntries entries + 1
  | .held _ => 1
def uptoBulkAll {H : Type} : List (DataW H) → Nat
  | [] => 0
  | d :: r => uptoBulk d + uptoBulkAll r
def uptoBulkEntries {H : Type} : List (Lit × DataW H) → Nat
  | [] => 0
  | x :: r => uptoBulkEntry x + uptoBulkEntries r
def uptoBulkEntry {H : Type} : Lit × DataW H → Nat
  | (.string bytes, d) => bytes.length + uptoBulk d + 1
  | (_, d) => uptoBulk d + 1
 end
def uptoSmall : (H : Type) → List (DataW H) → Bool := fun _ ds => decide (uptoBulkAll ds ≤ 1048576)
def OpenSpec.upto (s : _root_.Go.ChangeSpec) : _root_.Go.OpenSpec := { _root_.Go.OpenSpec.ofChange s with cond := some uptoSmall }

/-- 'roadlaw5.ShapeSame', WHERE WHAT IT READS IS OF BULK AT MOST 1048576: true; the input reads as it did. -/
def shapeSameUptoRow : OpenClaim := { program := "ytclmcpbanaojfaa", sum := "a68265fb47d0256f6ce2ac82b4e65cb74a3b85dbfcc1dd1eb6072e3a47db991d", func := "roadstead/roadlaw5.ShapeSame", spec := "shapeSame", unfollowed := true, recurses := true, loops := true, plainKeys := false, apart := false, narrowed := true }
def ShapeSameUptoSaid : Prop := shapeSameUptoRow.holds Try.pinned (OpenSpec.upto shapeSameSpec)

/-- 'roadlaw5.ChunkShelf', WHERE WHAT IT READS IS OF BULK AT MOST 1048576: true; the input reads as it did. -/
def chunkShelfUptoRow : OpenClaim := { program := "ytclmcpbanaojfaa", sum := "a68265fb47d0256f6ce2ac82b4e65cb74a3b85dbfcc1dd1eb6072e3a47db991d", func := "roadstead/roadlaw5.ChunkShelf", spec := "chunkShelf", inPlace := ["internal/bytealg.IndexByte"], unfollowed := true, recurses := true, plainKeys := false, apart := false, narrowed := true }
def ChunkShelfUptoSaid : Prop := chunkShelfUptoRow.holds Try.pinned (OpenSpec.upto chunkShelfSpec)

/-- 'roadlaw1.CacheTells', WHERE WHAT IT READS IS OF BULK AT MOST 1048576: true; the input reads as it did. -/
def cacheTellsUptoRow : OpenClaim := { program := "ytclmcpbanaojfaa", sum := "a68265fb47d0256f6ce2ac82b4e65cb74a3b85dbfcc1dd1eb6072e3a47db991d", func := "roadstead/roadlaw1.CacheTells", spec := "cacheTells", inPlace := ["slices.overlaps[roadstead/cache.Way]"], unfollowed := true, recurses := true, loops := true, plainKeys := false, apart := false, narrowed := true }
def CacheTellsUptoSaid : Prop := cacheTellsUptoRow.holds Try.pinned (OpenSpec.upto cacheTellsSpec)

/-- 'roadlaw1.ArmsTells', WHERE WHAT IT READS IS OF BULK AT MOST 1048576: true; the input reads as it did. -/
def armsTellsUptoRow : OpenClaim := { program := "ytclmcpbanaojfaa", sum := "a68265fb47d0256f6ce2ac82b4e65cb74a3b85dbfcc1dd1eb6072e3a47db991d", func := "roadstead/roadlaw1.ArmsTells", spec := "armsTells", unfollowed := true, recurses := true, loops := true, plainKeys := false, apart := false, narrowed := true }
def ArmsTellsUptoSaid : Prop := armsTellsUptoRow.holds Try.pinned (OpenSpec.upto armsTellsSpec)

/-- 'roadlaw5.MoveRuns', WHERE WHAT IT READS IS OF BULK AT MOST 1048576: true; the input reads as it did. -/
def moveRunsUptoRow : OpenClaim := { program := "ytclmcpbanaojfaa", sum := "a68265fb47d0256f6ce2ac82b4e65cb74a3b85dbfcc1dd1eb6072e3a47db991d", func := "roadstead/roadlaw5.MoveRuns", spec := "moveRuns", unfollowed := true, recurses := true, plainKeys := false, apart := false, narrowed := true }
def MoveRunsUptoSaid : Prop := moveRunsUptoRow.holds Try.pinned (OpenSpec.upto moveRunsSpec)

/-- 'roadlaw5.MarkRuns', WHERE WHAT IT READS IS OF BULK AT MOST 1048576: true; the input reads as it did. -/
def markRunsUptoRow : OpenClaim := { program := "ytclmcpbanaojfaa", sum := "a68265fb47d0256f6ce2ac82b4e65cb74a3b85dbfcc1dd1eb6072e3a47db991d", func := "roadstead/roadlaw5.MarkRuns", spec := "markRuns", unfollowed := true, recurses := true, plainKeys := false, apart := false, narrowed := true }
def MarkRunsUptoSaid : Prop := markRunsUptoRow.holds Try.pinned (OpenSpec.upto markRunsSpec)

/-- 'roadlaw5.RenewPlan', WHERE WHAT IT READS IS OF BULK AT MOST 1048576: true; the input reads as it did. -/
def renewPlanUptoRow : OpenClaim := { program := "ytclmcpbanaojfaa", sum := "a68265fb47d0256f6ce2ac82b4e65cb74a3b85dbfcc1dd1eb6072e3a47db991d", func := "roadstead/roadlaw5.RenewPlan", spec := "renewPlan", unfollowed := true, recurses := true, loops := true, plainKeys := false, apart := false, narrowed := true }
def RenewPlanUptoSaid : Prop := renewPlanUptoRow.holds Try.pinned (OpenSpec.upto renewPlanSpec)

/-- 'roadlaw5.LayoutLays', WHERE WHAT IT READS IS OF BULK AT MOST 1048576: true; the input reads as it did. -/
def layoutLaysUptoRow : OpenClaim := { program := "ytclmcpbanaojfaa", sum := "a68265fb47d0256f6ce2ac82b4e65cb74a3b85dbfcc1dd1eb6072e3a47db991d", func := "roadstead/roadlaw5.LayoutLays", spec := "layoutLays", inPlace := ["internal/bytealg.IndexByteString", "internal/bytealg.IndexString", "internal/abi.NoEscape", "internal/bytealg.MakeNoZero"], recurses := true, named := ["internal/bytealg.MaxLen"], plainKeys := false, apart := false, narrowed := true }
def LayoutLaysUptoSaid : Prop := layoutLaysUptoRow.holds Try.pinned (OpenSpec.upto layoutLaysSpec)

/-- 'roadlaw1.PackTells', WHERE WHAT IT READS IS OF BULK AT MOST 1048576: true; the input reads as it did. -/
def packTellsUptoRow : OpenClaim := { program := "ytclmcpbanaojfaa", sum := "a68265fb47d0256f6ce2ac82b4e65cb74a3b85dbfcc1dd1eb6072e3a47db991d", func := "roadstead/roadlaw1.PackTells", spec := "packTells", unfollowed := true, recurses := true, loops := true, plainKeys := false, apart := false, narrowed := true }
def PackTellsUptoSaid : Prop := packTellsUptoRow.holds Try.pinned (OpenSpec.upto packTellsSpec)

/-- 'roadlaw1.LiveTells', WHERE WHAT IT READS IS OF BULK AT MOST 1048576: true; the input reads as it did. -/
def liveTellsUptoRow : OpenClaim := { program := "ytclmcpbanaojfaa", sum := "a68265fb47d0256f6ce2ac82b4e65cb74a3b85dbfcc1dd1eb6072e3a47db991d", func := "roadstead/roadlaw1.LiveTells", spec := "liveTells", unfollowed := true, recurses := true, plainKeys := false, apart := false, narrowed := true }
def LiveTellsUptoSaid : Prop := liveTellsUptoRow.holds Try.pinned (OpenSpec.upto liveTellsSpec)

end Rows
end Go.Proofs.Ytclmcpbanaojfaa
