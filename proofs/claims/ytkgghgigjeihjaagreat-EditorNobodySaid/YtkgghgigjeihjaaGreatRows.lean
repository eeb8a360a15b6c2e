/-
  No cell of these rows narrows 'for every input' (looked for: loops, veiled, ifaces, maps, wideKeys, modest, calm, conditions, laid).
  DERIVED. THE GIVEN ROWS OF THIS SEAT. 10 by the template 'for every input the law returns true; each argument reads behind the call as it read before'; 0 by the template 'total and deterministic' (their statements: YtkgghgigjeihjaaGreatTotals.lean).
  GIVEN WITH THE SEED: the statements are not yours to turn. If you find one false, say at which input.
  Laid BY PROGRAM, IN A SANDBOX (cutbox-rows.mjs): the forced cells as the released guide's own fill.sh prints them over the translation 47f12238c52ba8e7… (all of the seat's roots in one cut). By AI agents, Wed Nov 11 2026. No macro, syntax, notation, axiom, sorry.
-/
import Derived.Test.YtkgghgigjeihjaaGreatChecked
import GoSem.Claim
import GoSem.ClaimJoined
import GoSem.ClaimMapViews
import Derived.JoinedTies
import Derived.KernelRfl
namespace Go.Proofs.YtkgghgigjeihjaaGreat
/- THE CELL 'sum', in the pinned program and in every row, IS THE sha256 OF THE DUMP (.gsa) THAT YtkgghgigjeihjaaGreatProg.lean LOADS. Nothing in Lean hashes anything: it is a label: what it is worth is what the hold of that sum in a sandbox is worth. -/
noncomputable def Tryz.pinned : Pinned := { name := "ytkgghgigjeihjaagreat", sum := "47f12238c52ba8e77dd3835e73c20a2a5426261f7ef93aabcab7b2c779f91e5f", checked := Tryz.checked }
namespace Rows
def none {H : Type} : Left H := { results := [], args := [] }

/-- 'styluslaw26.EditorRight': WHATEVER THE INPUT: true; the input reads as it did. -/
def editorRightSpec : ChangeSpec := { name := "editorRight", fn := fun _ => fun
  | [d] => { results := [.lit (.bool true)], args := [d] }
  | _ => none }
def editorRightRow : OpenClaim := { program := "ytkgghgigjeihjaagreat", sum := "47f12238c52ba8e77dd3835e73c20a2a5426261f7ef93aabcab7b2c779f91e5f", func := "stylus/styluslaw26.EditorRight", spec := "editorRight", inPlace := ["internal/abi.NoEscape", "internal/bytealg.MakeNoZero", "slices.overlaps[stylus/api.Mark]"], unfollowed := true, recurses := true, apart := false }
def EditorRightSaid : Prop := editorRightRow.holds Tryz.pinned (OpenSpec.ofChange editorRightSpec)

/-- ITS FALSE NEIGHBOUR: 'it returns false'. Refute it at one input. -/
def editorRightWrong : ChangeSpec := { name := "editorRight", fn := fun _ => fun
  | [d] => { results := [.lit (.bool false)], args := [d] }
  | _ => none }
def EditorRightWrongFalsely : Prop := editorRightRow.holds Tryz.pinned (OpenSpec.ofChange editorRightWrong)

/-- 'styluslaw26.EditorTurns': WHATEVER THE INPUT: true; the input reads as it did. -/
def editorTurnsSpec : ChangeSpec := { name := "editorTurns", fn := fun _ => fun
  | [d1, d2] => { results := [.lit (.bool true)], args := [d1, d2] }
  | _ => none }
def editorTurnsRow : OpenClaim := { program := "ytkgghgigjeihjaagreat", sum := "47f12238c52ba8e77dd3835e73c20a2a5426261f7ef93aabcab7b2c779f91e5f", func := "stylus/styluslaw26.EditorTurns", spec := "editorTurns", inPlace := ["internal/abi.NoEscape", "internal/bytealg.MakeNoZero", "slices.overlaps[stylus/api.Mark]"], unfollowed := true, recurses := true, apart := false }
def EditorTurnsSaid : Prop := editorTurnsRow.holds Tryz.pinned (OpenSpec.ofChange editorTurnsSpec)

/-- ITS FALSE NEIGHBOUR: 'it returns false'. Refute it at one input. -/
def editorTurnsWrong : ChangeSpec := { name := "editorTurns", fn := fun _ => fun
  | [d1, d2] => { results := [.lit (.bool false)], args := [d1, d2] }
  | _ => none }
def EditorTurnsWrongFalsely : Prop := editorTurnsRow.holds Tryz.pinned (OpenSpec.ofChange editorTurnsWrong)

/-- 'styluslaw26.EditorNobody': WHATEVER THE INPUT: true; the input reads as it did. -/
def editorNobodySpec : ChangeSpec := { name := "editorNobody", fn := fun _ => fun
  | [d1, d2] => { results := [.lit (.bool true)], args := [d1, d2] }
  | _ => none }
def editorNobodyRow : OpenClaim := { program := "ytkgghgigjeihjaagreat", sum := "47f12238c52ba8e77dd3835e73c20a2a5426261f7ef93aabcab7b2c779f91e5f", func := "stylus/styluslaw26.EditorNobody", spec := "editorNobody", inPlace := ["internal/abi.NoEscape", "internal/bytealg.MakeNoZero", "slices.overlaps[stylus/api.Mark]"], unfollowed := true, recurses := true, apart := false }
def EditorNobodySaid : Prop := editorNobodyRow.holds Tryz.pinned (OpenSpec.ofChange editorNobodySpec)

/-- ITS FALSE NEIGHBOUR: 'it returns false'. Refute it at one input. -/
def editorNobodyWrong : ChangeSpec := { name := "editorNobody", fn := fun _ => fun
  | [d1, d2] => { results := [.lit (.bool false)], args := [d1, d2] }
  | _ => none }
def EditorNobodyWrongFalsely : Prop := editorNobodyRow.holds Tryz.pinned (OpenSpec.ofChange editorNobodyWrong)

/-- 'styluslaw26.EditorLoads': WHATEVER THE INPUT: true; the input reads as it did. -/
def editorLoadsSpec : ChangeSpec := { name := "editorLoads", fn := fun _ => fun
  | [d1, d2] => { results := [.lit (.bool true)], args := [d1, d2] }
  | _ => none }
def editorLoadsRow : OpenClaim := { program := "ytkgghgigjeihjaagreat", sum := "47f12238c52ba8e77dd3835e73c20a2a5426261f7ef93aabcab7b2c779f91e5f", func := "stylus/styluslaw26.EditorLoads", spec := "editorLoads", inPlace := ["internal/abi.NoEscape", "internal/bytealg.MakeNoZero", "slices.overlaps[stylus/api.Mark]", "internal/bytealg.abigen_runtime_cmpstring"], unfollowed := true, recurses := true, apart := false }
def EditorLoadsSaid : Prop := editorLoadsRow.holds Tryz.pinned (OpenSpec.ofChange editorLoadsSpec)

/-- ITS FALSE NEIGHBOUR: 'it returns false'. Refute it at one input. -/
def editorLoadsWrong : ChangeSpec := { name := "editorLoads", fn := fun _ => fun
  | [d1, d2] => { results := [.lit (.bool false)], args := [d1, d2] }
  | _ => none }
def EditorLoadsWrongFalsely : Prop := editorLoadsRow.holds Tryz.pinned (OpenSpec.ofChange editorLoadsWrong)

/-- 'styluslaw26.EditorPlays': WHATEVER THE INPUT: true; the input reads as it did. -/
def editorPlaysSpec : ChangeSpec := { name := "editorPlays", fn := fun _ => fun
  | [d1, d2] => { results := [.lit (.bool true)], args := [d1, d2] }
  | _ => none }
def editorPlaysRow : OpenClaim := { program := "ytkgghgigjeihjaagreat", sum := "47f12238c52ba8e77dd3835e73c20a2a5426261f7ef93aabcab7b2c779f91e5f", func := "stylus/styluslaw26.EditorPlays", spec := "editorPlays", inPlace := ["internal/abi.NoEscape", "internal/bytealg.MakeNoZero", "slices.overlaps[stylus/api.Mark]"], unfollowed := true, recurses := true, apart := false }
def EditorPlaysSaid : Prop := editorPlaysRow.holds Tryz.pinned (OpenSpec.ofChange editorPlaysSpec)

/-- ITS FALSE NEIGHBOUR: 'it returns false'. Refute it at one input. -/
def editorPlaysWrong : ChangeSpec := { name := "editorPlays", fn := fun _ => fun
  | [d1, d2] => { results := [.lit (.bool false)], args := [d1, d2] }
  | _ => none }
def EditorPlaysWrongFalsely : Prop := editorPlaysRow.holds Tryz.pinned (OpenSpec.ofChange editorPlaysWrong)

/-- 'styluslaw27.ReplayRuns': WHATEVER THE INPUT: true; the input reads as it did. -/
def replayRunsSpec : ChangeSpec := { name := "replayRuns", fn := fun _ => fun
  | [d1, d2] => { results := [.lit (.bool true)], args := [d1, d2] }
  | _ => none }
def replayRunsRow : OpenClaim := { program := "ytkgghgigjeihjaagreat", sum := "47f12238c52ba8e77dd3835e73c20a2a5426261f7ef93aabcab7b2c779f91e5f", func := "stylus/styluslaw27.ReplayRuns", spec := "replayRuns", inPlace := ["internal/bytealg.abigen_runtime_cmpstring", "internal/abi.NoEscape", "internal/bytealg.MakeNoZero", "slices.overlaps[stylus/api.Mark]"], unfollowed := true, recurses := true, apart := false }
def ReplayRunsSaid : Prop := replayRunsRow.holds Tryz.pinned (OpenSpec.ofChange replayRunsSpec)

/-- ITS FALSE NEIGHBOUR: 'it returns false'. Refute it at one input. -/
def replayRunsWrong : ChangeSpec := { name := "replayRuns", fn := fun _ => fun
  | [d1, d2] => { results := [.lit (.bool false)], args := [d1, d2] }
  | _ => none }
def ReplayRunsWrongFalsely : Prop := replayRunsRow.holds Tryz.pinned (OpenSpec.ofChange replayRunsWrong)

/-- 'styluslaw27.ReplayAlls': WHATEVER THE INPUT: true; the input reads as it did. -/
def replayAllsSpec : ChangeSpec := { name := "replayAlls", fn := fun _ => fun
  | [d1, d2, d3] => { results := [.lit (.bool true)], args := [d1, d2, d3] }
  | _ => none }
def replayAllsRow : OpenClaim := { program := "ytkgghgigjeihjaagreat", sum := "47f12238c52ba8e77dd3835e73c20a2a5426261f7ef93aabcab7b2c779f91e5f", func := "stylus/styluslaw27.ReplayAlls", spec := "replayAlls", inPlace := ["internal/bytealg.abigen_runtime_cmpstring", "internal/abi.NoEscape", "internal/bytealg.MakeNoZero", "slices.overlaps[stylus/api.Mark]"], unfollowed := true, recurses := true, apart := false }
def ReplayAllsSaid : Prop := replayAllsRow.holds Tryz.pinned (OpenSpec.ofChange replayAllsSpec)

/-- ITS FALSE NEIGHBOUR: 'it returns false'. Refute it at one input. -/
def replayAllsWrong : ChangeSpec := { name := "replayAlls", fn := fun _ => fun
  | [d1, d2, d3] => { results := [.lit (.bool false)], args := [d1, d2, d3] }
  | _ => none }
def ReplayAllsWrongFalsely : Prop := replayAllsRow.holds Tryz.pinned (OpenSpec.ofChange replayAllsWrong)

/-- 'styluslaw27.ReplayFrames': WHATEVER THE INPUT: true; the input reads as it did. -/
def replayFramesSpec : ChangeSpec := { name := "replayFrames", fn := fun _ => fun
  | [d1, d2] => { results := [.lit (.bool true)], args := [d1, d2] }
  | _ => none }
def replayFramesRow : OpenClaim := { program := "ytkgghgigjeihjaagreat", sum := "47f12238c52ba8e77dd3835e73c20a2a5426261f7ef93aabcab7b2c779f91e5f", func := "stylus/styluslaw27.ReplayFrames", spec := "replayFrames", inPlace := ["internal/bytealg.abigen_runtime_cmpstring", "internal/abi.NoEscape", "internal/bytealg.MakeNoZero", "slices.overlaps[stylus/api.Mark]"], unfollowed := true, recurses := true, apart := false }
def ReplayFramesSaid : Prop := replayFramesRow.holds Tryz.pinned (OpenSpec.ofChange replayFramesSpec)

/-- ITS FALSE NEIGHBOUR: 'it returns false'. Refute it at one input. -/
def replayFramesWrong : ChangeSpec := { name := "replayFrames", fn := fun _ => fun
  | [d1, d2] => { results := [.lit (.bool false)], args := [d1, d2] }
  | _ => none }
def ReplayFramesWrongFalsely : Prop := replayFramesRow.holds Tryz.pinned (OpenSpec.ofChange replayFramesWrong)

/-- 'styluslaw27.ReplayParts': WHATEVER THE INPUT: true; the input reads as it did. -/
def replayPartsSpec : ChangeSpec := { name := "replayParts", fn := fun _ => fun
  | [d1, d2] => { results := [.lit (.bool true)], args := [d1, d2] }
  | _ => none }
def replayPartsRow : OpenClaim := { program := "ytkgghgigjeihjaagreat", sum := "47f12238c52ba8e77dd3835e73c20a2a5426261f7ef93aabcab7b2c779f91e5f", func := "stylus/styluslaw27.ReplayParts", spec := "replayParts", inPlace := ["internal/bytealg.abigen_runtime_cmpstring", "internal/abi.NoEscape", "internal/bytealg.MakeNoZero", "slices.overlaps[stylus/api.Mark]"], unfollowed := true, recurses := true, apart := false }
def ReplayPartsSaid : Prop := replayPartsRow.holds Tryz.pinned (OpenSpec.ofChange replayPartsSpec)

/-- ITS FALSE NEIGHBOUR: 'it returns false'. Refute it at one input. -/
def replayPartsWrong : ChangeSpec := { name := "replayParts", fn := fun _ => fun
  | [d1, d2] => { results := [.lit (.bool false)], args := [d1, d2] }
  | _ => none }
def ReplayPartsWrongFalsely : Prop := replayPartsRow.holds Tryz.pinned (OpenSpec.ofChange replayPartsWrong)

/-- 'styluslaw36.CheckpointLoads': WHATEVER THE INPUT: true; the input reads as it did. -/
def checkpointLoadsSpec : ChangeSpec := { name := "checkpointLoads", fn := fun _ => fun
  | [d1, d2] => { results := [.lit (.bool true)], args := [d1, d2] }
  | _ => none }
def checkpointLoadsRow : OpenClaim := { program := "ytkgghgigjeihjaagreat", sum := "47f12238c52ba8e77dd3835e73c20a2a5426261f7ef93aabcab7b2c779f91e5f", func := "stylus/styluslaw36.CheckpointLoads", spec := "checkpointLoads", inPlace := ["internal/bytealg.abigen_runtime_cmpstring", "internal/abi.NoEscape", "maps.clone", "internal/bytealg.IndexByteString", "internal/bytealg.IndexString"], unfollowed := true, recurses := true, named := ["internal/bytealg.MaxLen"], apart := false }
def CheckpointLoadsSaid : Prop := checkpointLoadsRow.holds Tryz.pinned (OpenSpec.ofChange checkpointLoadsSpec)

/-- ITS FALSE NEIGHBOUR: 'it returns false'. Refute it at one input. -/
def checkpointLoadsWrong : ChangeSpec := { name := "checkpointLoads", fn := fun _ => fun
  | [d1, d2] => { results := [.lit (.bool false)], args := [d1, d2] }
  | _ => none }
def CheckpointLoadsWrongFalsely : Prop := checkpointLoadsRow.holds Tryz.pinned (OpenSpec.ofChange checkpointLoadsWrong)

/- THE SECOND FORM. 'bulk': how many values and letters a reading holds, each counted each time it is reached (what is shared counts as often as it is met; a slice's spare places count too). A statement '..UptoSaid' is the law's where the arguments, and the package variables that the reading takes, are together of bulk at most 1048576: NARROWER than '..Said'. Prove '..Said' where nothing that the law and all that it calls make is longer than what came in: it says more and counts as full. Else prove '..UptoSaid'. A law counts once. -/
mutual
def uptoBulk {H : Type} : DataW H → Nat
  | .lit (.string bytes) => bytes.length + 1
  | .lit _ => 1
  | .nil => 1
  | .ptr d => uptoBulk d + 1
  | .slice elems spare => uptoBulkAll elems + uptoBulkAll spare + 1
  | .agg parts => uptoBulkAll parts + 1
  | .iface _ d => uptoBulk d + 1
  | .map entries => uptoBulkEntries entries + 1
  | .held _ => 1
def uptoBulkAll {H : Type} : List (DataW H) → Nat
  | [] => 0
  | d :: r => uptoBulk d + uptoBulkAll r
def uptoBulkEntries {H : Type} : List (Lit × DataW H) → Nat
  | [] => 0
  | x :: r => uptoBulkEntry x + uptoBulkEntries r
def uptoBulkEntry {H : Type} : Lit × DataW H → Nat
  | (.string bytes, d) => bytes.length + uptoBulk d + 1
  | (_, d) => uptoBulk d + 1
 end
def uptoSmall : (H : Type) → List (DataW H) → Bool := fun _ ds => decide (uptoBulkAll ds ≤ 1048576)
def OpenSpec.upto (s : _root_.Go.ChangeSpec) : _root_.Go.OpenSpec := { _root_.Go.OpenSpec.ofChange s with cond := some uptoSmall }

/-- 'styluslaw26.EditorRight', WHERE WHAT IT READS IS OF BULK AT MOST 1048576: true; the input reads as it did. -/
def editorRightUptoRow : OpenClaim := { program := "ytkgghgigjeihjaagreat", sum := "47f12238c52ba8e77dd3835e73c20a2a5426261f7ef93aabcab7b2c779f91e5f", func := "stylus/styluslaw26.EditorRight", spec := "editorRight", inPlace := ["internal/abi.NoEscape", "internal/bytealg.MakeNoZero", "slices.overlaps[stylus/api.Mark]"], unfollowed := true, recurses := true, apart := false, narrowed := true }
def EditorRightUptoSaid : Prop := editorRightUptoRow.holds Tryz.pinned (OpenSpec.upto editorRightSpec)

/-- 'styluslaw26.EditorTurns', WHERE WHAT IT READS IS OF BULK AT MOST 1048576: true; the input reads as it did. -/
def editorTurnsUptoRow : OpenClaim := { program := "ytkgghgigjeihjaagreat", sum := "47f12238c52ba8e77dd3835e73c20a2a5426261f7ef93aabcab7b2c779f91e5f", func := "stylus/styluslaw26.EditorTurns", spec := "editorTurns", inPlace := ["internal/abi.NoEscape", "internal/bytealg.MakeNoZero", "slices.overlaps[stylus/api.Mark]"], unfollowed := true, recurses := true, apart := false, narrowed := true }
def EditorTurnsUptoSaid : Prop := editorTurnsUptoRow.holds Tryz.pinned (OpenSpec.upto editorTurnsSpec)

/-- 'styluslaw26.EditorNobody', WHERE WHAT IT READS IS OF BULK AT MOST 1048576: true; the input reads as it did. -/
def editorNobodyUptoRow : OpenClaim := { program := "ytkgghgigjeihjaagreat", sum := "47f12238c52ba8e77dd3835e73c20a2a5426261f7ef93aabcab7b2c779f91e5f", func := "stylus/styluslaw26.EditorNobody", spec := "editorNobody", inPlace := ["internal/abi.NoEscape", "internal/bytealg.MakeNoZero", "slices.overlaps[stylus/api.Mark]"], unfollowed := true, recurses := true, apart := false, narrowed := true }
def EditorNobodyUptoSaid : Prop := editorNobodyUptoRow.holds Tryz.pinned (OpenSpec.upto editorNobodySpec)

/-- 'styluslaw26.EditorLoads', WHERE WHAT IT READS IS OF BULK AT MOST 1048576: true; the input reads as it did. -/
def editorLoadsUptoRow : OpenClaim := { program := "ytkgghgigjeihjaagreat", sum := "47f12238c52ba8e77dd3835e73c20a2a5426261f7ef93aabcab7b2c779f91e5f", func := "stylus/styluslaw26.EditorLoads", spec := "editorLoads", inPlace := ["internal/abi.NoEscape", "internal/bytealg.MakeNoZero", "slices.overlaps[stylus/api.Mark]", "internal/bytealg.abigen_runtime_cmpstring"], unfollowed := true, recurses := true, apart := false, narrowed := true }
def EditorLoadsUptoSaid : Prop := editorLoadsUptoRow.holds Tryz.pinned (OpenSpec.upto editorLoadsSpec)

/-- 'styluslaw26.EditorPlays', WHERE WHAT IT READS IS OF BULK AT MOST 1048576: true; the input reads as it did. -/
def editorPlaysUptoRow : OpenClaim := { program := "ytkgghgigjeihjaagreat", sum := "47f12238c52ba8e77dd3835e73c20a2a5426261f7ef93aabcab7b2c779f91e5f", func := "stylus/styluslaw26.EditorPlays", spec := "editorPlays", inPlace := ["internal/abi.NoEscape", "internal/bytealg.MakeNoZero", "slices.overlaps[stylus/api.Mark]"], unfollowed := true, recurses := true, apart := false, narrowed := true }
def EditorPlaysUptoSaid : Prop := editorPlaysUptoRow.holds Tryz.pinned (OpenSpec.upto editorPlaysSpec)

/-- 'styluslaw27.ReplayRuns', WHERE WHAT IT READS IS OF BULK AT MOST 1048576: true; the input reads as it did. -/
def replayRunsUptoRow : OpenClaim := { program := "ytkgghgigjeihjaagreat", sum := "47f12238c52ba8e77dd3835e73c20a2a5426261f7ef93aabcab7b2c779f91e5f", func := "stylus/styluslaw27.ReplayRuns", spec := "replayRuns", inPlace := ["internal/bytealg.abigen_runtime_cmpstring", "internal/abi.NoEscape", "internal/bytealg.MakeNoZero", "slices.overlaps[stylus/api.Mark]"], unfollowed := true, recurses := true, apart := false, narrowed := true }
def ReplayRunsUptoSaid : Prop := replayRunsUptoRow.holds Tryz.pinned (OpenSpec.upto replayRunsSpec)

/-- 'styluslaw27.ReplayAlls', WHERE WHAT IT READS IS OF BULK AT MOST 1048576: true; the input reads as it did. -/
def replayAllsUptoRow : OpenClaim := { program := "ytkgghgigjeihjaagreat", sum := "47f12238c52ba8e77dd3835e73c20a2a5426261f7ef93aabcab7b2c779f91e5f", func := "stylus/styluslaw27.ReplayAlls", spec := "replayAlls", inPlace := ["internal/bytealg.abigen_runtime_cmpstring", "internal/abi.NoEscape", "internal/bytealg.MakeNoZero", "slices.overlaps[stylus/api.Mark]"], unfollowed := true, recurses := true, apart := false, narrowed := true }
def ReplayAllsUptoSaid : Prop := replayAllsUptoRow.holds Tryz.pinned (OpenSpec.upto replayAllsSpec)

/-- 'styluslaw27.ReplayFrames', WHERE WHAT IT READS IS OF BULK AT MOST 1048576: true; the input reads as it did. -/
def replayFramesUptoRow : OpenClaim := { program := "ytkgghgigjeihjaagreat", sum := "47f12238c52ba8e77dd3835e73c20a2a5426261f7ef93aabcab7b2c779f91e5f", func := "stylus/styluslaw27.ReplayFrames", spec := "replayFrames", inPlace := ["internal/bytealg.abigen_runtime_cmpstring", "internal/abi.NoEscape", "internal/bytealg.MakeNoZero", "slices.overlaps[stylus/api.Mark]"], unfollowed := true, recurses := true, apart := false, narrowed := true }
def ReplayFramesUptoSaid : Prop := replayFramesUptoRow.holds Tryz.pinned (OpenSpec.upto replayFramesSpec)

/-- 'styluslaw27.ReplayParts', WHERE WHAT IT READS IS OF BULK AT MOST 1048576: true; the input reads as it did. -/
def replayPartsUptoRow : OpenClaim := { program := "ytkgghgigjeihjaagreat", sum := "47f12238c52ba8e77dd3835e73c20a2a5426261f7ef93aabcab7b2c779f91e5f", func := "stylus/styluslaw27.ReplayParts", spec := "replayParts", inPlace := ["internal/bytealg.abigen_runtime_cmpstring", "internal/abi.NoEscape", "internal/bytealg.MakeNoZero", "slices.overlaps[stylus/api.Mark]"], unfollowed := true, recurses := true, apart := false, narrowed := true }
def ReplayPartsUptoSaid : Prop := replayPartsUptoRow.holds Tryz.pinned (OpenSpec.upto replayPartsSpec)

/-- 'styluslaw36.CheckpointLoads', WHERE WHAT IT READS IS OF BULK AT MOST 1048576: true; the input reads as it did. -/
def checkpointLoadsUptoRow : OpenClaim := { program := "ytkgghgigjeihjaagreat", sum := "47f12238c52ba8e77dd3835e73c20a2a5426261f7ef93aabcab7b2c779f91e5f", func := "stylus/styluslaw36.CheckpointLoads", spec := "checkpointLoads", inPlace := ["internal/bytealg.abigen_runtime_cmpstring", "internal/abi.NoEscape", "maps.clone", "internal/bytealg.IndexByteString", "internal/bytealg.IndexString"], unfollowed := true, recurses := true, named := ["internal/bytealg.MaxLen"], apart := false, narrowed := true }
def CheckpointLoadsUptoSaid : Prop := checkpointLoadsUptoRow.holds Tryz.pinned (OpenSpec.upto checkpointLoadsSpec)

end Rows
end Go.Proofs.YtkgghgigjeihjaaGreat
