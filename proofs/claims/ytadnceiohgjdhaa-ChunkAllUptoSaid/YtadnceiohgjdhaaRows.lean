/-
  No cell of these rows narrows 'for every input' (looked for: loops, veiled, ifaces, maps, wideKeys, modest, calm, conditions, laid).
  DERIVED. THE GIVEN ROWS OF THIS SEAT. 10 by the template 'for every input the law returns true; each argument reads behind the call as it read before'; 0 by the template 'total and deterministic' (their statements: YtadnceiohgjdhaaTotals.lean).
  GIVEN WITH THE SEED: the statements are not yours to turn. If you find one false, say at which input.
  Laid BY PROGRAM, IN A SANDBOX (cutbox-rows.mjs): the forced cells as the released guide's own fill.sh prints them over the translation 4fec2a17eee52e76… (all of the seat's roots in one cut). By AI agents, Wed Nov 11 2026. No macro, syntax, notation, axiom, sorry.
-/
import Derived.Test.YtadnceiohgjdhaaChecked
import GoSem.Claim
import GoSem.ClaimJoined
import GoSem.ClaimMapViews
import Derived.JoinedTies
import Derived.KernelRfl
namespace Go.Proofs.Ytadnceiohgjdhaa
/- THE CELL 'sum', in the pinned program and in every row, IS THE sha256 OF THE DUMP (.gsa) THAT YtadnceiohgjdhaaProg.lean LOADS. Nothing in Lean hashes anything: it is a label: what it is worth is what the hold of that sum in a sandbox is worth. -/
noncomputable def Try.pinned : Pinned := { name := "ytadnceiohgjdhaa", sum := "4fec2a17eee52e7685fdc33e612cd3b516fc86e98517f0df63eeabb304427835", checked := Try.checked }
namespace Rows
def none {H : Type} : Left H := { results := [], args := [] }

/-- 'sievelaw02.ChunkNames': WHATEVER THE INPUT: true; the input reads as it did. -/
def chunkNamesSpec : ChangeSpec := { name := "chunkNames", fn := fun _ => fun
  | [] => { results := [.lit (.bool true)], args := [] }
  | _ => none }
def chunkNamesRow : OpenClaim := { program := "ytadnceiohgjdhaa", sum := "4fec2a17eee52e7685fdc33e612cd3b516fc86e98517f0df63eeabb304427835", func := "sieve/sievelaw02.ChunkNames", spec := "chunkNames", apart := false }
def ChunkNamesSaid : Prop := chunkNamesRow.holds Try.pinned (OpenSpec.ofChange chunkNamesSpec)

/-- ITS FALSE NEIGHBOUR: 'it returns false'. Refute it at one input. -/
def chunkNamesWrong : ChangeSpec := { name := "chunkNames", fn := fun _ => fun
  | [] => { results := [.lit (.bool false)], args := [] }
  | _ => none }
def ChunkNamesWrongFalsely : Prop := chunkNamesRow.holds Try.pinned (OpenSpec.ofChange chunkNamesWrong)

/-- 'sievelaw02.ChunkScripts': WHATEVER THE INPUT: true; the input reads as it did. -/
def chunkScriptsSpec : ChangeSpec := { name := "chunkScripts", fn := fun _ => fun
  | [d1, d2, d3] => { results := [.lit (.bool true)], args := [d1, d2, d3] }
  | _ => none }
def chunkScriptsRow : OpenClaim := { program := "ytadnceiohgjdhaa", sum := "4fec2a17eee52e7685fdc33e612cd3b516fc86e98517f0df63eeabb304427835", func := "sieve/sievelaw02.ChunkScripts", spec := "chunkScripts", apart := false }
def ChunkScriptsSaid : Prop := chunkScriptsRow.holds Try.pinned (OpenSpec.ofChange chunkScriptsSpec)

/-- ITS FALSE NEIGHBOUR: 'it returns false'. Refute it at one input. -/
def chunkScriptsWrong : ChangeSpec := { name := "chunkScripts", fn := fun _ => fun
  | [d1, d2, d3] => { results := [.lit (.bool false)], args := [d1, d2, d3] }
  | _ => none }
def ChunkScriptsWrongFalsely : Prop := chunkScriptsRow.holds Try.pinned (OpenSpec.ofChange chunkScriptsWrong)

/-- 'sievelaw02.ChunkCuts': WHATEVER THE INPUT: true; the input reads as it did. -/
def chunkCutsSpec : ChangeSpec := { name := "chunkCuts", fn := fun _ => fun
  | [d] => { results := [.lit (.bool true)], args := [d] }
  | _ => none }
def chunkCutsRow : OpenClaim := { program := "ytadnceiohgjdhaa", sum := "4fec2a17eee52e7685fdc33e612cd3b516fc86e98517f0df63eeabb304427835", func := "sieve/sievelaw02.ChunkCuts", spec := "chunkCuts", apart := false }
def ChunkCutsSaid : Prop := chunkCutsRow.holds Try.pinned (OpenSpec.ofChange chunkCutsSpec)

/-- ITS FALSE NEIGHBOUR: 'it returns false'. Refute it at one input. -/
def chunkCutsWrong : ChangeSpec := { name := "chunkCuts", fn := fun _ => fun
  | [d] => { results := [.lit (.bool false)], args := [d] }
  | _ => none }
def ChunkCutsWrongFalsely : Prop := chunkCutsRow.holds Try.pinned (OpenSpec.ofChange chunkCutsWrong)

/-- 'sievelaw02.ChunkReads': WHATEVER THE INPUT: true; the input reads as it did. -/
def chunkReadsSpec : ChangeSpec := { name := "chunkReads", fn := fun _ => fun
  | [d1, d2] => { results := [.lit (.bool true)], args := [d1, d2] }
  | _ => none }
def chunkReadsRow : OpenClaim := { program := "ytadnceiohgjdhaa", sum := "4fec2a17eee52e7685fdc33e612cd3b516fc86e98517f0df63eeabb304427835", func := "sieve/sievelaw02.ChunkReads", spec := "chunkReads", apart := false }
def ChunkReadsSaid : Prop := chunkReadsRow.holds Try.pinned (OpenSpec.ofChange chunkReadsSpec)

/-- ITS FALSE NEIGHBOUR: 'it returns false'. Refute it at one input. -/
def chunkReadsWrong : ChangeSpec := { name := "chunkReads", fn := fun _ => fun
  | [d1, d2] => { results := [.lit (.bool false)], args := [d1, d2] }
  | _ => none }
def ChunkReadsWrongFalsely : Prop := chunkReadsRow.holds Try.pinned (OpenSpec.ofChange chunkReadsWrong)

/-- 'sievelaw02.ChunkAll': WHATEVER THE INPUT: true; the input reads as it did. -/
def chunkAllSpec : ChangeSpec := { name := "chunkAll", fn := fun _ => fun
  | [d1, d2, d3] => { results := [.lit (.bool true)], args := [d1, d2, d3] }
  | _ => none }
def chunkAllRow : OpenClaim := { program := "ytadnceiohgjdhaa", sum := "4fec2a17eee52e7685fdc33e612cd3b516fc86e98517f0df63eeabb304427835", func := "sieve/sievelaw02.ChunkAll", spec := "chunkAll", unfollowed := true, recurses := true, leaving := true, apart := false }
def ChunkAllSaid : Prop := chunkAllRow.holds Try.pinned (OpenSpec.ofChange chunkAllSpec)

/-- ITS FALSE NEIGHBOUR: 'it returns false'. Refute it at one input. -/
def chunkAllWrong : ChangeSpec := { name := "chunkAll", fn := fun _ => fun
  | [d1, d2, d3] => { results := [.lit (.bool false)], args := [d1, d2, d3] }
  | _ => none }
def ChunkAllWrongFalsely : Prop := chunkAllRow.holds Try.pinned (OpenSpec.ofChange chunkAllWrong)

/-- 'sievelaw02.ChunkAhead': WHATEVER THE INPUT: true; the input reads as it did. -/
def chunkAheadSpec : ChangeSpec := { name := "chunkAhead", fn := fun _ => fun
  | [d1, d2, d3] => { results := [.lit (.bool true)], args := [d1, d2, d3] }
  | _ => none }
def chunkAheadRow : OpenClaim := { program := "ytadnceiohgjdhaa", sum := "4fec2a17eee52e7685fdc33e612cd3b516fc86e98517f0df63eeabb304427835", func := "sieve/sievelaw02.ChunkAhead", spec := "chunkAhead", unfollowed := true, recurses := true, leaving := true, apart := false }
def ChunkAheadSaid : Prop := chunkAheadRow.holds Try.pinned (OpenSpec.ofChange chunkAheadSpec)

/-- ITS FALSE NEIGHBOUR: 'it returns false'. Refute it at one input. -/
def chunkAheadWrong : ChangeSpec := { name := "chunkAhead", fn := fun _ => fun
  | [d1, d2, d3] => { results := [.lit (.bool false)], args := [d1, d2, d3] }
  | _ => none }
def ChunkAheadWrongFalsely : Prop := chunkAheadRow.holds Try.pinned (OpenSpec.ofChange chunkAheadWrong)

/-- 'sievelaw02.ChunkKeeps': WHATEVER THE INPUT: true; the input reads as it did. -/
def chunkKeepsSpec : ChangeSpec := { name := "chunkKeeps", fn := fun _ => fun
  | [d1, d2, d3] => { results := [.lit (.bool true)], args := [d1, d2, d3] }
  | _ => none }
def chunkKeepsRow : OpenClaim := { program := "ytadnceiohgjdhaa", sum := "4fec2a17eee52e7685fdc33e612cd3b516fc86e98517f0df63eeabb304427835", func := "sieve/sievelaw02.ChunkKeeps", spec := "chunkKeeps", unfollowed := true, recurses := true, leaving := true, apart := false }
def ChunkKeepsSaid : Prop := chunkKeepsRow.holds Try.pinned (OpenSpec.ofChange chunkKeepsSpec)

/-- ITS FALSE NEIGHBOUR: 'it returns false'. Refute it at one input. -/
def chunkKeepsWrong : ChangeSpec := { name := "chunkKeeps", fn := fun _ => fun
  | [d1, d2, d3] => { results := [.lit (.bool false)], args := [d1, d2, d3] }
  | _ => none }
def ChunkKeepsWrongFalsely : Prop := chunkKeepsRow.holds Try.pinned (OpenSpec.ofChange chunkKeepsWrong)

/-- 'sievelaw02.ChunkNones': WHATEVER THE INPUT: true; the input reads as it did. -/
def chunkNonesSpec : ChangeSpec := { name := "chunkNones", fn := fun _ => fun
  | [d1, d2] => { results := [.lit (.bool true)], args := [d1, d2] }
  | _ => none }
def chunkNonesRow : OpenClaim := { program := "ytadnceiohgjdhaa", sum := "4fec2a17eee52e7685fdc33e612cd3b516fc86e98517f0df63eeabb304427835", func := "sieve/sievelaw02.ChunkNones", spec := "chunkNones", inPlace := ["internal/bytealg.IndexByte"], unfollowed := true, recurses := true, leaving := true, apart := false }
def ChunkNonesSaid : Prop := chunkNonesRow.holds Try.pinned (OpenSpec.ofChange chunkNonesSpec)

/-- ITS FALSE NEIGHBOUR: 'it returns false'. Refute it at one input. -/
def chunkNonesWrong : ChangeSpec := { name := "chunkNones", fn := fun _ => fun
  | [d1, d2] => { results := [.lit (.bool false)], args := [d1, d2] }
  | _ => none }
def ChunkNonesWrongFalsely : Prop := chunkNonesRow.holds Try.pinned (OpenSpec.ofChange chunkNonesWrong)

/-- 'sievelaw02.ChunkBuffers': WHATEVER THE INPUT: true; the input reads as it did. -/
def chunkBuffersSpec : ChangeSpec := { name := "chunkBuffers", fn := fun _ => fun
  | [d1, d2, d3] => { results := [.lit (.bool true)], args := [d1, d2, d3] }
  | _ => none }
def chunkBuffersRow : OpenClaim := { program := "ytadnceiohgjdhaa", sum := "4fec2a17eee52e7685fdc33e612cd3b516fc86e98517f0df63eeabb304427835", func := "sieve/sievelaw02.ChunkBuffers", spec := "chunkBuffers", inPlace := ["internal/bytealg.IndexByte"], unfollowed := true, recurses := true, leaving := true, apart := false }
def ChunkBuffersSaid : Prop := chunkBuffersRow.holds Try.pinned (OpenSpec.ofChange chunkBuffersSpec)

/-- ITS FALSE NEIGHBOUR: 'it returns false'. Refute it at one input. -/
def chunkBuffersWrong : ChangeSpec := { name := "chunkBuffers", fn := fun _ => fun
  | [d1, d2, d3] => { results := [.lit (.bool false)], args := [d1, d2, d3] }
  | _ => none }
def ChunkBuffersWrongFalsely : Prop := chunkBuffersRow.holds Try.pinned (OpenSpec.ofChange chunkBuffersWrong)

/-- 'sievelaw02.ChunkSplits': WHATEVER THE INPUT: true; the input reads as it did. -/
def chunkSplitsSpec : ChangeSpec := { name := "chunkSplits", fn := fun _ => fun
  | [d1, d2, d3] => { results := [.lit (.bool true)], args := [d1, d2, d3] }
  | _ => none }
def chunkSplitsRow : OpenClaim := { program := "ytadnceiohgjdhaa", sum := "4fec2a17eee52e7685fdc33e612cd3b516fc86e98517f0df63eeabb304427835", func := "sieve/sievelaw02.ChunkSplits", spec := "chunkSplits", inPlace := ["internal/bytealg.IndexByte"], unfollowed := true, recurses := true, leaving := true, apart := false }
def ChunkSplitsSaid : Prop := chunkSplitsRow.holds Try.pinned (OpenSpec.ofChange chunkSplitsSpec)

/-- ITS FALSE NEIGHBOUR: 'it returns false'. Refute it at one input. -/
def chunkSplitsWrong : ChangeSpec := { name := "chunkSplits", fn := fun _ => fun
  | [d1, d2, d3] => { results := [.lit (.bool false)], args := [d1, d2, d3] }
  | _ => none }
def ChunkSplitsWrongFalsely : Prop := chunkSplitsRow.holds Try.pinned (OpenSpec.ofChange chunkSplitsWrong)

/- THE SECOND FORM. 'bulk': how many values and letters a reading holds, each counted each time it is reached (what is shared counts as often as it is met; a slice's spare places count too). A statement '..UptoSaid' is the law's where the arguments, and the package variables that the reading takes, are together of bulk at most 1048576: NARROWER than '..Said'. Prove '..Said' where nothing that the law and all that it calls make is longer than what came in: it says more and counts as full. Else prove '..UptoSaid'. A law counts once. -/
mutual
def uptoBulk {H : Type} : DataW H → Nat
  | .lit (.string bytes) => bytes.length + 1
  | .lit _ => 1
  | .nil => 1
  | .ptr d => uptoBulk d + 1
  | .slice elems spare => uptoBulkAll elems + uptoBulkAll spare + 1
  | .agg parts => uptoBulkAll parts + 1
  | .iface _ d => uptoBulk d + 1
  | .map entries => uptoBulkEntries entries + 1
  | .held _ => 1
def uptoBulkAll {H : Type} : List (DataW H) → Nat
  | [] => 0
  | d :: r => uptoBulk d + uptoBulkAll r
def uptoBulkEntries {H : Type} : List (Lit × DataW H) → Nat
  | [] => 0
  | x :: r => uptoBulkEntry x + uptoBulkEntries r
def uptoBulkEntry {H : Type} : Lit × DataW H → Nat
  | (.string bytes, d) => bytes.length + uptoBulk d + 1
  | (_, d) => uptoBulk d + 1
 end
def uptoSmall : (H : Type) → List (DataW H) → Bool := fun _ ds => decide (uptoBulkAll ds ≤ 1048576)
def OpenSpec.upto (s : _root_.Go.ChangeSpec) : _root_.Go.OpenSpec := { _root_.Go.OpenSpec.ofChange s with cond := some uptoSmall }

/-- 'sievelaw02.ChunkNames', WHERE WHAT IT READS IS OF BULK AT MOST 1048576: true; the input reads as it did. -/
def chunkNamesUptoRow : OpenClaim := { program := "ytadnceiohgjdhaa", sum := "4fec2a17eee52e7685fdc33e612cd3b516fc86e98517f0df63eeabb304427835", func := "sieve/sievelaw02.ChunkNames", spec := "chunkNames", apart := false, narrowed := true }
def ChunkNamesUptoSaid : Prop := chunkNamesUptoRow.holds Try.pinned (OpenSpec.upto chunkNamesSpec)

/-- 'sievelaw02.ChunkScripts', WHERE WHAT IT READS IS OF BULK AT MOST 1048576: true; the input reads as it did. -/
def chunkScriptsUptoRow : OpenClaim := { program := "ytadnceiohgjdhaa", sum := "4fec2a17eee52e7685fdc33e612cd3b516fc86e98517f0df63eeabb304427835", func := "sieve/sievelaw02.ChunkScripts", spec := "chunkScripts", apart := false, narrowed := true }
def ChunkScriptsUptoSaid : Prop := chunkScriptsUptoRow.holds Try.pinned (OpenSpec.upto chunkScriptsSpec)

/-- 'sievelaw02.ChunkCuts', WHERE WHAT IT READS IS OF BULK AT MOST 1048576: true; the input reads as it did. -/
def chunkCutsUptoRow : OpenClaim := { program := "ytadnceiohgjdhaa", sum := "4fec2a17eee52e7685fdc33e612cd3b516fc86e98517f0df63eeabb304427835", func := "sieve/sievelaw02.ChunkCuts", spec := "chunkCuts", apart := false, narrowed := true }
def ChunkCutsUptoSaid : Prop := chunkCutsUptoRow.holds Try.pinned (OpenSpec.upto chunkCutsSpec)

/-- 'sievelaw02.ChunkReads', WHERE WHAT IT READS IS OF BULK AT MOST 1048576: true; the input reads as it did. -/
def chunkReadsUptoRow : OpenClaim := { program := "ytadnceiohgjdhaa", sum := "4fec2a17eee52e7685fdc33e612cd3b516fc86e98517f0df63eeabb304427835", func := "sieve/sievelaw02.ChunkReads", spec := "chunkReads", apart := false, narrowed := true }
def ChunkReadsUptoSaid : Prop := chunkReadsUptoRow.holds Try.pinned (OpenSpec.upto chunkReadsSpec)

/-- 'sievelaw02.ChunkAll', WHERE WHAT IT READS IS OF BULK AT MOST 1048576: true; the input reads as it did. -/
def chunkAllUptoRow : OpenClaim := { program := "ytadnceiohgjdhaa", sum := "4fec2a17eee52e7685fdc33e612cd3b516fc86e98517f0df63eeabb304427835", func := "sieve/sievelaw02.ChunkAll", spec := "chunkAll", unfollowed := true, recurses := true, leaving := true, apart := false, narrowed := true }
def ChunkAllUptoSaid : Prop := chunkAllUptoRow.holds Try.pinned (OpenSpec.upto chunkAllSpec)

/-- 'sievelaw02.ChunkAhead', WHERE WHAT IT READS IS OF BULK AT MOST 1048576: true; the input reads as it did. -/
def chunkAheadUptoRow : OpenClaim := { program := "ytadnceiohgjdhaa", sum := "4fec2a17eee52e7685fdc33e612cd3b516fc86e98517f0df63eeabb304427835", func := "sieve/sievelaw02.ChunkAhead", spec := "chunkAhead", unfollowed := true, recurses := true, leaving := true, apart := false, narrowed := true }
def ChunkAheadUptoSaid : Prop := chunkAheadUptoRow.holds Try.pinned (OpenSpec.upto chunkAheadSpec)

/-- 'sievelaw02.ChunkKeeps', WHERE WHAT IT READS IS OF BULK AT MOST 1048576: true; the input reads as it did. -/
def chunkKeepsUptoRow : OpenClaim := { program := "ytadnceiohgjdhaa", sum := "4fec2a17eee52e7685fdc33e612cd3b516fc86e98517f0df63eeabb304427835", func := "sieve/sievelaw02.ChunkKeeps", spec := "chunkKeeps", unfollowed := true, recurses := true, leaving := true, apart := false, narrowed := true }
def ChunkKeepsUptoSaid : Prop := chunkKeepsUptoRow.holds Try.pinned (OpenSpec.upto chunkKeepsSpec)

/-- 'sievelaw02.ChunkNones', WHERE WHAT IT READS IS OF BULK AT MOST 1048576: true; the input reads as it did. -/
def chunkNonesUptoRow : OpenClaim := { program := "ytadnceiohgjdhaa", sum := "4fec2a17eee52e7685fdc33e612cd3b516fc86e98517f0df63eeabb304427835", func := "sieve/sievelaw02.ChunkNones", spec := "chunkNones", inPlace := ["internal/bytealg.IndexByte"], unfollowed := true, recurses := true, leaving := true, apart := false, narrowed := true }
def ChunkNonesUptoSaid : Prop := chunkNonesUptoRow.holds Try.pinned (OpenSpec.upto chunkNonesSpec)

/-- 'sievelaw02.ChunkBuffers', WHERE WHAT IT READS IS OF BULK AT MOST 1048576: true; the input reads as it did. -/
def chunkBuffersUptoRow : OpenClaim := { program := "ytadnceiohgjdhaa", sum := "4fec2a17eee52e7685fdc33e612cd3b516fc86e98517f0df63eeabb304427835", func := "sieve/sievelaw02.ChunkBuffers", spec := "chunkBuffers", inPlace := ["internal/bytealg.IndexByte"], unfollowed := true, recurses := true, leaving := true, apart := false, narrowed := true }
def ChunkBuffersUptoSaid : Prop := chunkBuffersUptoRow.holds Try.pinned (OpenSpec.upto chunkBuffersSpec)

/-- 'sievelaw02.ChunkSplits', WHERE WHAT IT READS IS OF BULK AT MOST 1048576: true; the input reads as it did. -/
def chunkSplitsUptoRow : OpenClaim := { program := "ytadnceiohgjdhaa", sum := "4fec2a17eee52e7685fdc33e612cd3b516fc86e98517f0df63eeabb304427835", func := "sieve/sievelaw02.ChunkSplits", spec := "chunkSplits", inPlace := ["internal/bytealg.IndexByte"], unfollowed := true, recurses := true, leaving := true, apart := false, narrowed := true }
def ChunkSplitsUptoSaid : Prop := chunkSplitsUptoRow.holds Try.pinned (OpenSpec.upto chunkSplitsSpec)

end Rows
end Go.Proofs.Ytadnceiohgjdhaa
