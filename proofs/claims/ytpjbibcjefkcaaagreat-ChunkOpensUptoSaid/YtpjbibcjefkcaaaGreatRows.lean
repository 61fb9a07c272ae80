/-
  NARROWER THAN 'FOR EVERY INPUT', by the rows' own cells (each row's printed sentence says how): SegmentSound: loops.
  DERIVED. THE GIVEN ROWS OF THIS SEAT. 15 by the template 'for every input the law returns true; each argument reads behind the call as it read before'; 0 by the template 'total and deterministic' (their statements: YtpjbibcjefkcaaaGreatTotals.lean).
  GIVEN WITH THE SEED: the statements are not yours to turn. If you find one false, say at which input.
  Laid BY PROGRAM, IN A SANDBOX (cutbox-rows.mjs): the forced cells as the released guide's own fill.sh prints them over the translation 970d7289c0f5df8c… (all of the seat's roots in one cut). By AI agents, Wed Nov 11 2026. No macro, syntax, notation, axiom, sorry.
-/
import Derived.Test.YtpjbibcjefkcaaaGreatChecked
import GoSem.Claim
import GoSem.ClaimJoined
import GoSem.ClaimMapViews
import Derived.JoinedTies
import Derived.KernelRfl
namespace Go.Proofs.YtpjbibcjefkcaaaGreat
/- THE CELL 'sum', in the pinned program and in every row, IS THE sha256 OF THE DUMP (.gsa) THAT YtpjbibcjefkcaaaGreatProg.lean LOADS. Nothing in Lean hashes anything: it is a label: what it is worth is what the hold of that sum in a sandbox is worth. -/
noncomputable def Tryz.pinned : Pinned := { name := "ytpjbibcjefkcaaagreat", sum := "970d7289c0f5df8c22dc4fa265950d4c6db0f2eff3bd6877ee74bfb1e84bab16", checked := Tryz.checked }
namespace Rows
def none {H : Type} : Left H := { results := [], args := [] }

/-- 'hopperlaw19.CatalogActs': WHATEVER THE INPUT: true; the input reads as it did. -/
def catalogActsSpec : ChangeSpec := { name := "catalogActs", fn := fun _ => fun
  | [d] => { results := [.lit (.bool true)], args := [d] }
  | _ => none }
def catalogActsRow : OpenClaim := { program := "ytpjbibcjefkcaaagreat", sum := "970d7289c0f5df8c22dc4fa265950d4c6db0f2eff3bd6877ee74bfb1e84bab16", func := "hopper/hopperlaw19.CatalogActs", spec := "catalogActs", unfollowed := true, recurses := true, apart := false }
def CatalogActsSaid : Prop := catalogActsRow.holds Tryz.pinned (OpenSpec.ofChange catalogActsSpec)

/-- ITS FALSE NEIGHBOUR: 'it returns false'. Refute it at one input. -/
def catalogActsWrong : ChangeSpec := { name := "catalogActs", fn := fun _ => fun
  | [d] => { results := [.lit (.bool false)], args := [d] }
  | _ => none }
def CatalogActsWrongFalsely : Prop := catalogActsRow.holds Tryz.pinned (OpenSpec.ofChange catalogActsWrong)

/-- 'hopperlaw17.ChunkCodes': WHATEVER THE INPUT: true; the input reads as it did. -/
def chunkCodesSpec : ChangeSpec := { name := "chunkCodes", fn := fun _ => fun
  | [d1, d2] => { results := [.lit (.bool true)], args := [d1, d2] }
  | _ => none }
def chunkCodesRow : OpenClaim := { program := "ytpjbibcjefkcaaagreat", sum := "970d7289c0f5df8c22dc4fa265950d4c6db0f2eff3bd6877ee74bfb1e84bab16", func := "hopper/hopperlaw17.ChunkCodes", spec := "chunkCodes", unfollowed := true, recurses := true, apart := false }
def ChunkCodesSaid : Prop := chunkCodesRow.holds Tryz.pinned (OpenSpec.ofChange chunkCodesSpec)

/-- ITS FALSE NEIGHBOUR: 'it returns false'. Refute it at one input. -/
def chunkCodesWrong : ChangeSpec := { name := "chunkCodes", fn := fun _ => fun
  | [d1, d2] => { results := [.lit (.bool false)], args := [d1, d2] }
  | _ => none }
def ChunkCodesWrongFalsely : Prop := chunkCodesRow.holds Tryz.pinned (OpenSpec.ofChange chunkCodesWrong)

/-- 'hopperlaw17.ChunkBest': WHATEVER THE INPUT: true; the input reads as it did. -/
def chunkBestSpec : ChangeSpec := { name := "chunkBest", fn := fun _ => fun
  | [d1, d2, d3] => { results := [.lit (.bool true)], args := [d1, d2, d3] }
  | _ => none }
def chunkBestRow : OpenClaim := { program := "ytpjbibcjefkcaaagreat", sum := "970d7289c0f5df8c22dc4fa265950d4c6db0f2eff3bd6877ee74bfb1e84bab16", func := "hopper/hopperlaw17.ChunkBest", spec := "chunkBest", unfollowed := true, recurses := true, apart := false }
def ChunkBestSaid : Prop := chunkBestRow.holds Tryz.pinned (OpenSpec.ofChange chunkBestSpec)

/-- ITS FALSE NEIGHBOUR: 'it returns false'. Refute it at one input. -/
def chunkBestWrong : ChangeSpec := { name := "chunkBest", fn := fun _ => fun
  | [d1, d2, d3] => { results := [.lit (.bool false)], args := [d1, d2, d3] }
  | _ => none }
def ChunkBestWrongFalsely : Prop := chunkBestRow.holds Tryz.pinned (OpenSpec.ofChange chunkBestWrong)

/-- 'hopperlaw17.ChunkOpens': WHATEVER THE INPUT: true; the input reads as it did. -/
def chunkOpensSpec : ChangeSpec := { name := "chunkOpens", fn := fun _ => fun
  | [d] => { results := [.lit (.bool true)], args := [d] }
  | _ => none }
def chunkOpensRow : OpenClaim := { program := "ytpjbibcjefkcaaagreat", sum := "970d7289c0f5df8c22dc4fa265950d4c6db0f2eff3bd6877ee74bfb1e84bab16", func := "hopper/hopperlaw17.ChunkOpens", spec := "chunkOpens", unfollowed := true, recurses := true, apart := false }
def ChunkOpensSaid : Prop := chunkOpensRow.holds Tryz.pinned (OpenSpec.ofChange chunkOpensSpec)

/-- ITS FALSE NEIGHBOUR: 'it returns false'. Refute it at one input. -/
def chunkOpensWrong : ChangeSpec := { name := "chunkOpens", fn := fun _ => fun
  | [d] => { results := [.lit (.bool false)], args := [d] }
  | _ => none }
def ChunkOpensWrongFalsely : Prop := chunkOpensRow.holds Tryz.pinned (OpenSpec.ofChange chunkOpensWrong)

/-- 'hopperlaw17.ChunkBack': WHATEVER THE INPUT: true; the input reads as it did. -/
def chunkBackSpec : ChangeSpec := { name := "chunkBack", fn := fun _ => fun
  | [d1, d2, d3] => { results := [.lit (.bool true)], args := [d1, d2, d3] }
  | _ => none }
def chunkBackRow : OpenClaim := { program := "ytpjbibcjefkcaaagreat", sum := "970d7289c0f5df8c22dc4fa265950d4c6db0f2eff3bd6877ee74bfb1e84bab16", func := "hopper/hopperlaw17.ChunkBack", spec := "chunkBack", unfollowed := true, recurses := true, apart := false }
def ChunkBackSaid : Prop := chunkBackRow.holds Tryz.pinned (OpenSpec.ofChange chunkBackSpec)

/-- ITS FALSE NEIGHBOUR: 'it returns false'. Refute it at one input. -/
def chunkBackWrong : ChangeSpec := { name := "chunkBack", fn := fun _ => fun
  | [d1, d2, d3] => { results := [.lit (.bool false)], args := [d1, d2, d3] }
  | _ => none }
def ChunkBackWrongFalsely : Prop := chunkBackRow.holds Tryz.pinned (OpenSpec.ofChange chunkBackWrong)

/-- 'hopperlaw17.ChunkKeeps': WHATEVER THE INPUT: true; the input reads as it did. -/
def chunkKeepsSpec : ChangeSpec := { name := "chunkKeeps", fn := fun _ => fun
  | [d1, d2] => { results := [.lit (.bool true)], args := [d1, d2] }
  | _ => none }
def chunkKeepsRow : OpenClaim := { program := "ytpjbibcjefkcaaagreat", sum := "970d7289c0f5df8c22dc4fa265950d4c6db0f2eff3bd6877ee74bfb1e84bab16", func := "hopper/hopperlaw17.ChunkKeeps", spec := "chunkKeeps", unfollowed := true, recurses := true, apart := false }
def ChunkKeepsSaid : Prop := chunkKeepsRow.holds Tryz.pinned (OpenSpec.ofChange chunkKeepsSpec)

/-- ITS FALSE NEIGHBOUR: 'it returns false'. Refute it at one input. -/
def chunkKeepsWrong : ChangeSpec := { name := "chunkKeeps", fn := fun _ => fun
  | [d1, d2] => { results := [.lit (.bool false)], args := [d1, d2] }
  | _ => none }
def ChunkKeepsWrongFalsely : Prop := chunkKeepsRow.holds Tryz.pinned (OpenSpec.ofChange chunkKeepsWrong)

/-- 'hopperlaw17.ChunkKinds': WHATEVER THE INPUT: true; the input reads as it did. -/
def chunkKindsSpec : ChangeSpec := { name := "chunkKinds", fn := fun _ => fun
  | [d1, d2, d3] => { results := [.lit (.bool true)], args := [d1, d2, d3] }
  | _ => none }
def chunkKindsRow : OpenClaim := { program := "ytpjbibcjefkcaaagreat", sum := "970d7289c0f5df8c22dc4fa265950d4c6db0f2eff3bd6877ee74bfb1e84bab16", func := "hopper/hopperlaw17.ChunkKinds", spec := "chunkKinds", unfollowed := true, recurses := true, apart := false }
def ChunkKindsSaid : Prop := chunkKindsRow.holds Tryz.pinned (OpenSpec.ofChange chunkKindsSpec)

/-- ITS FALSE NEIGHBOUR: 'it returns false'. Refute it at one input. -/
def chunkKindsWrong : ChangeSpec := { name := "chunkKinds", fn := fun _ => fun
  | [d1, d2, d3] => { results := [.lit (.bool false)], args := [d1, d2, d3] }
  | _ => none }
def ChunkKindsWrongFalsely : Prop := chunkKindsRow.holds Tryz.pinned (OpenSpec.ofChange chunkKindsWrong)

/-- 'hopperlaw18.SegmentWrites': WHATEVER THE INPUT: true; the input reads as it did. -/
def segmentWritesSpec : ChangeSpec := { name := "segmentWrites", fn := fun _ => fun
  | [d1, d2, d3, d4] => { results := [.lit (.bool true)], args := [d1, d2, d3, d4] }
  | _ => none }
def segmentWritesRow : OpenClaim := { program := "ytpjbibcjefkcaaagreat", sum := "970d7289c0f5df8c22dc4fa265950d4c6db0f2eff3bd6877ee74bfb1e84bab16", func := "hopper/hopperlaw18.SegmentWrites", spec := "segmentWrites", unfollowed := true, recurses := true, apart := false }
def SegmentWritesSaid : Prop := segmentWritesRow.holds Tryz.pinned (OpenSpec.ofChange segmentWritesSpec)

/-- ITS FALSE NEIGHBOUR: 'it returns false'. Refute it at one input. -/
def segmentWritesWrong : ChangeSpec := { name := "segmentWrites", fn := fun _ => fun
  | [d1, d2, d3, d4] => { results := [.lit (.bool false)], args := [d1, d2, d3, d4] }
  | _ => none }
def SegmentWritesWrongFalsely : Prop := segmentWritesRow.holds Tryz.pinned (OpenSpec.ofChange segmentWritesWrong)

/-- 'hopperlaw18.SegmentBack': WHATEVER THE INPUT: true; the input reads as it did. -/
def segmentBackSpec : ChangeSpec := { name := "segmentBack", fn := fun _ => fun
  | [d1, d2, d3, d4, d5, d6] => { results := [.lit (.bool true)], args := [d1, d2, d3, d4, d5, d6] }
  | _ => none }
def segmentBackRow : OpenClaim := { program := "ytpjbibcjefkcaaagreat", sum := "970d7289c0f5df8c22dc4fa265950d4c6db0f2eff3bd6877ee74bfb1e84bab16", func := "hopper/hopperlaw18.SegmentBack", spec := "segmentBack", unfollowed := true, recurses := true, apart := false }
def SegmentBackSaid : Prop := segmentBackRow.holds Tryz.pinned (OpenSpec.ofChange segmentBackSpec)

/-- ITS FALSE NEIGHBOUR: 'it returns false'. Refute it at one input. -/
def segmentBackWrong : ChangeSpec := { name := "segmentBack", fn := fun _ => fun
  | [d1, d2, d3, d4, d5, d6] => { results := [.lit (.bool false)], args := [d1, d2, d3, d4, d5, d6] }
  | _ => none }
def SegmentBackWrongFalsely : Prop := segmentBackRow.holds Tryz.pinned (OpenSpec.ofChange segmentBackWrong)

/-- 'hopperlaw18.SegmentReads': WHATEVER THE INPUT: true; the input reads as it did. -/
def segmentReadsSpec : ChangeSpec := { name := "segmentReads", fn := fun _ => fun
  | [d1, d2] => { results := [.lit (.bool true)], args := [d1, d2] }
  | _ => none }
def segmentReadsRow : OpenClaim := { program := "ytpjbibcjefkcaaagreat", sum := "970d7289c0f5df8c22dc4fa265950d4c6db0f2eff3bd6877ee74bfb1e84bab16", func := "hopper/hopperlaw18.SegmentReads", spec := "segmentReads", unfollowed := true, recurses := true, apart := false }
def SegmentReadsSaid : Prop := segmentReadsRow.holds Tryz.pinned (OpenSpec.ofChange segmentReadsSpec)

/-- ITS FALSE NEIGHBOUR: 'it returns false'. Refute it at one input. -/
def segmentReadsWrong : ChangeSpec := { name := "segmentReads", fn := fun _ => fun
  | [d1, d2] => { results := [.lit (.bool false)], args := [d1, d2] }
  | _ => none }
def SegmentReadsWrongFalsely : Prop := segmentReadsRow.holds Tryz.pinned (OpenSpec.ofChange segmentReadsWrong)

/-- 'hopperlaw18.SegmentCuts': WHATEVER THE INPUT: true; the input reads as it did. -/
def segmentCutsSpec : ChangeSpec := { name := "segmentCuts", fn := fun _ => fun
  | [d1, d2, d3, d4, d5] => { results := [.lit (.bool true)], args := [d1, d2, d3, d4, d5] }
  | _ => none }
def segmentCutsRow : OpenClaim := { program := "ytpjbibcjefkcaaagreat", sum := "970d7289c0f5df8c22dc4fa265950d4c6db0f2eff3bd6877ee74bfb1e84bab16", func := "hopper/hopperlaw18.SegmentCuts", spec := "segmentCuts", unfollowed := true, recurses := true, apart := false }
def SegmentCutsSaid : Prop := segmentCutsRow.holds Tryz.pinned (OpenSpec.ofChange segmentCutsSpec)

/-- ITS FALSE NEIGHBOUR: 'it returns false'. Refute it at one input. -/
def segmentCutsWrong : ChangeSpec := { name := "segmentCuts", fn := fun _ => fun
  | [d1, d2, d3, d4, d5] => { results := [.lit (.bool false)], args := [d1, d2, d3, d4, d5] }
  | _ => none }
def SegmentCutsWrongFalsely : Prop := segmentCutsRow.holds Tryz.pinned (OpenSpec.ofChange segmentCutsWrong)

/-- 'hopperlaw18.SegmentKeeps': WHATEVER THE INPUT: true; the input reads as it did. -/
def segmentKeepsSpec : ChangeSpec := { name := "segmentKeeps", fn := fun _ => fun
  | [d1, d2, d3] => { results := [.lit (.bool true)], args := [d1, d2, d3] }
  | _ => none }
def segmentKeepsRow : OpenClaim := { program := "ytpjbibcjefkcaaagreat", sum := "970d7289c0f5df8c22dc4fa265950d4c6db0f2eff3bd6877ee74bfb1e84bab16", func := "hopper/hopperlaw18.SegmentKeeps", spec := "segmentKeeps", unfollowed := true, recurses := true, apart := false }
def SegmentKeepsSaid : Prop := segmentKeepsRow.holds Tryz.pinned (OpenSpec.ofChange segmentKeepsSpec)

/-- ITS FALSE NEIGHBOUR: 'it returns false'. Refute it at one input. -/
def segmentKeepsWrong : ChangeSpec := { name := "segmentKeeps", fn := fun _ => fun
  | [d1, d2, d3] => { results := [.lit (.bool false)], args := [d1, d2, d3] }
  | _ => none }
def SegmentKeepsWrongFalsely : Prop := segmentKeepsRow.holds Tryz.pinned (OpenSpec.ofChange segmentKeepsWrong)

/-- 'hopperlaw18.SegmentSound': WHATEVER THE INPUT: true; the input reads as it did. -/
def segmentSoundSpec : ChangeSpec := { name := "segmentSound", fn := fun _ => fun
  | [d1, d2] => { results := [.lit (.bool true)], args := [d1, d2] }
  | _ => none }
def segmentSoundRow : OpenClaim := { program := "ytpjbibcjefkcaaagreat", sum := "970d7289c0f5df8c22dc4fa265950d4c6db0f2eff3bd6877ee74bfb1e84bab16", func := "hopper/hopperlaw18.SegmentSound", spec := "segmentSound", unfollowed := true, recurses := true, loops := true, apart := false }
def SegmentSoundSaid : Prop := segmentSoundRow.holds Tryz.pinned (OpenSpec.ofChange segmentSoundSpec)

/-- ITS FALSE NEIGHBOUR: 'it returns false'. Refute it at one input. -/
def segmentSoundWrong : ChangeSpec := { name := "segmentSound", fn := fun _ => fun
  | [d1, d2] => { results := [.lit (.bool false)], args := [d1, d2] }
  | _ => none }
def SegmentSoundWrongFalsely : Prop := segmentSoundRow.holds Tryz.pinned (OpenSpec.ofChange segmentSoundWrong)

/-- 'hopperlaw19.CatalogKeeps': WHATEVER THE INPUT: true; the input reads as it did. -/
def catalogKeepsSpec : ChangeSpec := { name := "catalogKeeps", fn := fun _ => fun
  | [d] => { results := [.lit (.bool true)], args := [d] }
  | _ => none }
def catalogKeepsRow : OpenClaim := { program := "ytpjbibcjefkcaaagreat", sum := "970d7289c0f5df8c22dc4fa265950d4c6db0f2eff3bd6877ee74bfb1e84bab16", func := "hopper/hopperlaw19.CatalogKeeps", spec := "catalogKeeps", unfollowed := true, recurses := true, apart := false }
def CatalogKeepsSaid : Prop := catalogKeepsRow.holds Tryz.pinned (OpenSpec.ofChange catalogKeepsSpec)

/-- ITS FALSE NEIGHBOUR: 'it returns false'. Refute it at one input. -/
def catalogKeepsWrong : ChangeSpec := { name := "catalogKeeps", fn := fun _ => fun
  | [d] => { results := [.lit (.bool false)], args := [d] }
  | _ => none }
def CatalogKeepsWrongFalsely : Prop := catalogKeepsRow.holds Tryz.pinned (OpenSpec.ofChange catalogKeepsWrong)

/-- 'hopperlaw19.CatalogBack': WHATEVER THE INPUT: true; the input reads as it did. -/
def catalogBackSpec : ChangeSpec := { name := "catalogBack", fn := fun _ => fun
  | [d1, d2] => { results := [.lit (.bool true)], args := [d1, d2] }
  | _ => none }
def catalogBackRow : OpenClaim := { program := "ytpjbibcjefkcaaagreat", sum := "970d7289c0f5df8c22dc4fa265950d4c6db0f2eff3bd6877ee74bfb1e84bab16", func := "hopper/hopperlaw19.CatalogBack", spec := "catalogBack", unfollowed := true, recurses := true, apart := false }
def CatalogBackSaid : Prop := catalogBackRow.holds Tryz.pinned (OpenSpec.ofChange catalogBackSpec)

/-- ITS FALSE NEIGHBOUR: 'it returns false'. Refute it at one input. -/
def catalogBackWrong : ChangeSpec := { name := "catalogBack", fn := fun _ => fun
  | [d1, d2] => { results := [.lit (.bool false)], args := [d1, d2] }
  | _ => none }
def CatalogBackWrongFalsely : Prop := catalogBackRow.holds Tryz.pinned (OpenSpec.ofChange catalogBackWrong)

/- THE SECOND FORM. 'bulk': how many values and letters a reading holds, each counted each time it is reached (what is shared counts as often as it is met; a slice's spare places count too). A statement '..UptoSaid' is the law's where the arguments, and the package variables that the reading takes, are together of bulk at most 1048576: NARROWER than '..Said'. Prove '..Said' where nothing that the law and all that it calls make is longer than what came in: it says more and counts as full. Else prove '..UptoSaid'. A law counts once. -/
mutual
def uptoBulk {H : Type} : DataW H → Nat
  | .lit (.string bytes) => bytes.length + 1
  | .lit _ => 1
  | .nil => 1
  | .ptr d => uptoBulk d + 1
  | .slice elems spare => uptoBulkAll elems + uptoBulkAll spare + 1
  | .agg parts => uptoBulkAll parts + 1
  | .iface _ d => uptoBulk d + 1
  | .map entries => uptoBulkEntries entries + 1
  | .held _ => 1
def uptoBulkAll {H : Type} : List (DataW H) → Nat
  | [] => 0
  | d :: r => uptoBulk d + uptoBulkAll r
def uptoBulkEntries {H : Type} : List (Lit × DataW H) → Nat
  | [] => 0
  | x :: r => uptoBulkEntry x + uptoBulkEntries r
def uptoBulkEntry {H : Type} : Lit × DataW H → Nat
  | (.string bytes, d) => bytes.length + uptoBulk d + 1
  | (_, d) => uptoBulk d + 1
 end
def uptoSmall : (H : Type) → List (DataW H) → Bool := fun _ ds => decide (uptoBulkAll ds ≤ 1048576)
def OpenSpec.upto (s : _root_.Go.ChangeSpec) : _root_.Go.OpenSpec := { _root_.Go.OpenSpec.ofChange s with cond := some uptoSmall }

/-- 'hopperlaw19.CatalogActs', WHERE WHAT IT READS IS OF BULK AT MOST 1048576: true; the input reads as it did. -/
def catalogActsUptoRow : OpenClaim := { program := "ytpjbibcjefkcaaagreat", sum := "970d7289c0f5df8c22dc4fa265950d4c6db0f2eff3bd6877ee74bfb1e84bab16", func := "hopper/hopperlaw19.CatalogActs", spec := "catalogActs", unfollowed := true, recurses := true, apart := false, narrowed := true }
def CatalogActsUptoSaid : Prop := catalogActsUptoRow.holds Tryz.pinned (OpenSpec.upto catalogActsSpec)

/-- 'hopperlaw17.ChunkCodes', WHERE WHAT IT READS IS OF BULK AT MOST 1048576: true; the input reads as it did. -/
def chunkCodesUptoRow : OpenClaim := { program := "ytpjbibcjefkcaaagreat", sum := "970d7289c0f5df8c22dc4fa265950d4c6db0f2eff3bd6877ee74bfb1e84bab16", func := "hopper/hopperlaw17.ChunkCodes", spec := "chunkCodes", unfollowed := true, recurses := true, apart := false, narrowed := true }
def ChunkCodesUptoSaid : Prop := chunkCodesUptoRow.holds Tryz.pinned (OpenSpec.upto chunkCodesSpec)

/-- 'hopperlaw17.ChunkBest', WHERE WHAT IT READS IS OF BULK AT MOST 1048576: true; the input reads as it did. -/
def chunkBestUptoRow : OpenClaim := { program := "ytpjbibcjefkcaaagreat", sum := "970d7289c0f5df8c22dc4fa265950d4c6db0f2eff3bd6877ee74bfb1e84bab16", func := "hopper/hopperlaw17.ChunkBest", spec := "chunkBest", unfollowed := true, recurses := true, apart := false, narrowed := true }
def ChunkBestUptoSaid : Prop := chunkBestUptoRow.holds Tryz.pinned (OpenSpec.upto chunkBestSpec)

/-- 'hopperlaw17.ChunkOpens', WHERE WHAT IT READS IS OF BULK AT MOST 1048576: true; the input reads as it did. -/
def chunkOpensUptoRow : OpenClaim := { program := "ytpjbibcjefkcaaagreat", sum := "970d7289c0f5df8c22dc4fa265950d4c6db0f2eff3bd6877ee74bfb1e84bab16", func := "hopper/hopperlaw17.ChunkOpens", spec := "chunkOpens", unfollowed := true, recurses := true, apart := false, narrowed := true }
def ChunkOpensUptoSaid : Prop := chunkOpensUptoRow.holds Tryz.pinned (OpenSpec.upto chunkOpensSpec)

/-- 'hopperlaw17.ChunkBack', WHERE WHAT IT READS IS OF BULK AT MOST 1048576: true; the input reads as it did. -/
def chunkBackUptoRow : OpenClaim := { program := "ytpjbibcjefkcaaagreat", sum := "970d7289c0f5df8c22dc4fa265950d4c6db0f2eff3bd6877ee74bfb1e84bab16", func := "hopper/hopperlaw17.ChunkBack", spec := "chunkBack", unfollowed := true, recurses := true, apart := false, narrowed := true }
def ChunkBackUptoSaid : Prop := chunkBackUptoRow.holds Tryz.pinned (OpenSpec.upto chunkBackSpec)

/-- 'hopperlaw17.ChunkKeeps', WHERE WHAT IT READS IS OF BULK AT MOST 1048576: true; the input reads as it did. -/
def chunkKeepsUptoRow : OpenClaim := { program := "ytpjbibcjefkcaaagreat", sum := "970d7289c0f5df8c22dc4fa265950d4c6db0f2eff3bd6877ee74bfb1e84bab16", func := "hopper/hopperlaw17.ChunkKeeps", spec := "chunkKeeps", unfollowed := true, recurses := true, apart := false, narrowed := true }
def ChunkKeepsUptoSaid : Prop := chunkKeepsUptoRow.holds Tryz.pinned (OpenSpec.upto chunkKeepsSpec)

/-- 'hopperlaw17.ChunkKinds', WHERE WHAT IT READS IS OF BULK AT MOST 1048576: true; the input reads as it did. -/
def chunkKindsUptoRow : OpenClaim := { program := "ytpjbibcjefkcaaagreat", sum := "970d7289c0f5df8c22dc4fa265950d4c6db0f2eff3bd6877ee74bfb1e84bab16", func := "hopper/hopperlaw17.ChunkKinds", spec := "chunkKinds", unfollowed := true, recurses := true, apart := false, narrowed := true }
def ChunkKindsUptoSaid : Prop := chunkKindsUptoRow.holds Tryz.pinned (OpenSpec.upto chunkKindsSpec)

/-- 'hopperlaw18.SegmentWrites', WHERE WHAT IT READS IS OF BULK AT MOST 1048576: true; the input reads as it did. -/
def segmentWritesUptoRow : OpenClaim := { program := "ytpjbibcjefkcaaagreat", sum := "970d7289c0f5df8c22dc4fa265950d4c6db0f2eff3bd6877ee74bfb1e84bab16", func := "hopper/hopperlaw18.SegmentWrites", spec := "segmentWrites", unfollowed := true, recurses := true, apart := false, narrowed := true }
def SegmentWritesUptoSaid : Prop := segmentWritesUptoRow.holds Tryz.pinned (OpenSpec.upto segmentWritesSpec)

/-- 'hopperlaw18.SegmentBack', WHERE WHAT IT READS IS OF BULK AT MOST 1048576: true; the input reads as it did. -/
def segmentBackUptoRow : OpenClaim := { program := "ytpjbibcjefkcaaagreat", sum := "970d7289c0f5df8c22dc4fa265950d4c6db0f2eff3bd6877ee74bfb1e84bab16", func := "hopper/hopperlaw18.SegmentBack", spec := "segmentBack", unfollowed := true, recurses := true, apart := false, narrowed := true }
def SegmentBackUptoSaid : Prop := segmentBackUptoRow.holds Tryz.pinned (OpenSpec.upto segmentBackSpec)

/-- 'hopperlaw18.SegmentReads', WHERE WHAT IT READS IS OF BULK AT MOST 1048576: true; the input reads as it did. -/
def segmentReadsUptoRow : OpenClaim := { program := "ytpjbibcjefkcaaagreat", sum := "970d7289c0f5df8c22dc4fa265950d4c6db0f2eff3bd6877ee74bfb1e84bab16", func := "hopper/hopperlaw18.SegmentReads", spec := "segmentReads", unfollowed := true, recurses := true, apart := false, narrowed := true }
def SegmentReadsUptoSaid : Prop := segmentReadsUptoRow.holds Tryz.pinned (OpenSpec.upto segmentReadsSpec)

/-- 'hopperlaw18.SegmentCuts', WHERE WHAT IT READS IS OF BULK AT MOST 1048576: true; the input reads as it did. -/
def segmentCutsUptoRow : OpenClaim := { program := "ytpjbibcjefkcaaagreat", sum := "970d7289c0f5df8c22dc4fa265950d4c6db0f2eff3bd6877ee74bfb1e84bab16", func := "hopper/hopperlaw18.SegmentCuts", spec := "segmentCuts", unfollowed := true, recurses := true, apart := false, narrowed := true }
def SegmentCutsUptoSaid : Prop := segmentCutsUptoRow.holds Tryz.pinned (OpenSpec.upto segmentCutsSpec)

/-- 'hopperlaw18.SegmentKeeps', WHERE WHAT IT READS IS OF BULK AT MOST 1048576: true; the input reads as it did. -/
def segmentKeepsUptoRow : OpenClaim := { program := "ytpjbibcjefkcaaagreat", sum := "970d7289c0f5df8c22dc4fa265950d4c6db0f2eff3bd6877ee74bfb1e84bab16", func := "hopper/hopperlaw18.SegmentKeeps", spec := "segmentKeeps", unfollowed := true, recurses := true, apart := false, narrowed := true }
def SegmentKeepsUptoSaid : Prop := segmentKeepsUptoRow.holds Tryz.pinned (OpenSpec.upto segmentKeepsSpec)

/-- 'hopperlaw18.SegmentSound', WHERE WHAT IT READS IS OF BULK AT MOST 1048576: true; the input reads as it did. -/
def segmentSoundUptoRow : OpenClaim := { program := "ytpjbibcjefkcaaagreat", sum := "970d7289c0f5df8c22dc4fa265950d4c6db0f2eff3bd6877ee74bfb1e84bab16", func := "hopper/hopperlaw18.SegmentSound", spec := "segmentSound", unfollowed := true, recurses := true, loops := true, apart := false, narrowed := true }
def SegmentSoundUptoSaid : Prop := segmentSoundUptoRow.holds Tryz.pinned (OpenSpec.upto segmentSoundSpec)

/-- 'hopperlaw19.CatalogKeeps', WHERE WHAT IT READS IS OF BULK AT MOST 1048576: true; the input reads as it did. -/
def catalogKeepsUptoRow : OpenClaim := { program := "ytpjbibcjefkcaaagreat", sum := "970d7289c0f5df8c22dc4fa265950d4c6db0f2eff3bd6877ee74bfb1e84bab16", func := "hopper/hopperlaw19.CatalogKeeps", spec := "catalogKeeps", unfollowed := true, recurses := true, apart := false, narrowed := true }
def CatalogKeepsUptoSaid : Prop := catalogKeepsUptoRow.holds Tryz.pinned (OpenSpec.upto catalogKeepsSpec)

/-- 'hopperlaw19.CatalogBack', WHERE WHAT IT READS IS OF BULK AT MOST 1048576: true; the input reads as it did. -/
def catalogBackUptoRow : OpenClaim := { program := "ytpjbibcjefkcaaagreat", sum := "970d7289c0f5df8c22dc4fa265950d4c6db0f2eff3bd6877ee74bfb1e84bab16", func := "hopper/hopperlaw19.CatalogBack", spec := "catalogBack", unfollowed := true, recurses := true, apart := false, narrowed := true }
def CatalogBackUptoSaid : Prop := catalogBackUptoRow.holds Tryz.pinned (OpenSpec.upto catalogBackSpec)

end Rows
end Go.Proofs.YtpjbibcjefkcaaaGreat
