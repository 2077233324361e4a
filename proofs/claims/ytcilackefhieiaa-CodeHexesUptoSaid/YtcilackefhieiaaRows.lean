/-
  No cell of these rows narrows 'for every input' (looked for: loops, veiled, ifaces, maps, wideKeys, modest, calm, conditions, laid).
  DERIVED. THE GIVEN ROWS OF THIS SEAT. 12 by the template 'for every input the law returns true; each argument reads behind the call as it read before'; 0 by the template 'total and deterministic' (their statements: YtcilackefhieiaaTotals.lean).
  GIVEN WITH THE SEED: the statements are not yours to turn. If you find one false, say at which input.
  Laid BY PROGRAM, IN A SANDBOX (cutbox-rows.mjs): the forced cells as the released guide's own fill.sh prints them over the translation 2d079949fb294d81… (all of the seat's roots in one cut). By AI agents, Wed Nov 11 2026. No macro, syntax, notation, axiom, sorry.
-/
import Derived.Test.YtcilackefhieiaaChecked
import GoSem.Claim
import GoSem.ClaimJoined
import GoSem.ClaimMapViews
import Derived.JoinedTies
import Derived.KernelRfl
namespace Go.Proofs.Ytcilackefhieiaa
/- THE CELL 'sum', in the pinned program and in every row, IS THE sha256 OF THE DUMP (.gsa) THAT YtcilackefhieiaaProg.lean LOADS. Nothing in Lean hashes anything: it is a label: what it is worth is what the hold of that sum in a sandbox is worth. -/
noncomputable def Try.pinned : Pinned := { name := "ytcilackefhieiaa", sum := "2d079949fb294d81ad5e80c4a2dff3ee9cad544d74917746fd3e46b24022c073", checked := Try.checked }
namespace Rows
def none {H : Type} : Left H := { results := [], args := [] }

/-- 'souterrainlaw.Names': WHATEVER THE INPUT: true; the input reads as it did. -/
def namesSpec : ChangeSpec := { name := "names", fn := fun _ => fun
  | [] => { results := [.lit (.bool true)], args := [] }
  | _ => none }
def namesRow : OpenClaim := { program := "ytcilackefhieiaa", sum := "2d079949fb294d81ad5e80c4a2dff3ee9cad544d74917746fd3e46b24022c073", func := "souterrain/souterrainlaw.Names", spec := "names", apart := false }
def NamesSaid : Prop := namesRow.holds Try.pinned (OpenSpec.ofChange namesSpec)

/-- ITS FALSE NEIGHBOUR: 'it returns false'. Refute it at one input. -/
def namesWrong : ChangeSpec := { name := "names", fn := fun _ => fun
  | [] => { results := [.lit (.bool false)], args := [] }
  | _ => none }
def NamesWrongFalsely : Prop := namesRow.holds Try.pinned (OpenSpec.ofChange namesWrong)

/-- 'souterrainlaw.StampReads': WHATEVER THE INPUT: true; the input reads as it did. -/
def stampReadsSpec : ChangeSpec := { name := "stampReads", fn := fun _ => fun
  | [d] => { results := [.lit (.bool true)], args := [d] }
  | _ => none }
def stampReadsRow : OpenClaim := { program := "ytcilackefhieiaa", sum := "2d079949fb294d81ad5e80c4a2dff3ee9cad544d74917746fd3e46b24022c073", func := "souterrain/souterrainlaw.StampReads", spec := "stampReads", recurses := true, apart := false }
def StampReadsSaid : Prop := stampReadsRow.holds Try.pinned (OpenSpec.ofChange stampReadsSpec)

/-- ITS FALSE NEIGHBOUR: 'it returns false'. Refute it at one input. -/
def stampReadsWrong : ChangeSpec := { name := "stampReads", fn := fun _ => fun
  | [d] => { results := [.lit (.bool false)], args := [d] }
  | _ => none }
def StampReadsWrongFalsely : Prop := stampReadsRow.holds Try.pinned (OpenSpec.ofChange stampReadsWrong)

/-- 'souterrainlaw.WindowSays': WHATEVER THE INPUT: true; the input reads as it did. -/
def windowSaysSpec : ChangeSpec := { name := "windowSays", fn := fun _ => fun
  | [d] => { results := [.lit (.bool true)], args := [d] }
  | _ => none }
def windowSaysRow : OpenClaim := { program := "ytcilackefhieiaa", sum := "2d079949fb294d81ad5e80c4a2dff3ee9cad544d74917746fd3e46b24022c073", func := "souterrain/souterrainlaw.WindowSays", spec := "windowSays", apart := false }
def WindowSaysSaid : Prop := windowSaysRow.holds Try.pinned (OpenSpec.ofChange windowSaysSpec)

/-- ITS FALSE NEIGHBOUR: 'it returns false'. Refute it at one input. -/
def windowSaysWrong : ChangeSpec := { name := "windowSays", fn := fun _ => fun
  | [d] => { results := [.lit (.bool false)], args := [d] }
  | _ => none }
def WindowSaysWrongFalsely : Prop := windowSaysRow.holds Try.pinned (OpenSpec.ofChange windowSaysWrong)

/-- 'souterrainlaw.CodeHexes': WHATEVER THE INPUT: true; the input reads as it did. -/
def codeHexesSpec : ChangeSpec := { name := "codeHexes", fn := fun _ => fun
  | [d1, d2] => { results := [.lit (.bool true)], args := [d1, d2] }
  | _ => none }
def codeHexesRow : OpenClaim := { program := "ytcilackefhieiaa", sum := "2d079949fb294d81ad5e80c4a2dff3ee9cad544d74917746fd3e46b24022c073", func := "souterrain/souterrainlaw.CodeHexes", spec := "codeHexes", inPlace := ["internal/bytealg.IndexByteString"], apart := false }
def CodeHexesSaid : Prop := codeHexesRow.holds Try.pinned (OpenSpec.ofChange codeHexesSpec)

/-- ITS FALSE NEIGHBOUR: 'it returns false'. Refute it at one input. -/
def codeHexesWrong : ChangeSpec := { name := "codeHexes", fn := fun _ => fun
  | [d1, d2] => { results := [.lit (.bool false)], args := [d1, d2] }
  | _ => none }
def CodeHexesWrongFalsely : Prop := codeHexesRow.holds Try.pinned (OpenSpec.ofChange codeHexesWrong)

/-- 'souterrainlaw.GaloisSubs': WHATEVER THE INPUT: true; the input reads as it did. -/
def galoisSubsSpec : ChangeSpec := { name := "galoisSubs", fn := fun _ => fun
  | [d] => { results := [.lit (.bool true)], args := [d] }
  | _ => none }
def galoisSubsRow : OpenClaim := { program := "ytcilackefhieiaa", sum := "2d079949fb294d81ad5e80c4a2dff3ee9cad544d74917746fd3e46b24022c073", func := "souterrain/souterrainlaw.GaloisSubs", spec := "galoisSubs", apart := false }
def GaloisSubsSaid : Prop := galoisSubsRow.holds Try.pinned (OpenSpec.ofChange galoisSubsSpec)

/-- ITS FALSE NEIGHBOUR: 'it returns false'. Refute it at one input. -/
def galoisSubsWrong : ChangeSpec := { name := "galoisSubs", fn := fun _ => fun
  | [d] => { results := [.lit (.bool false)], args := [d] }
  | _ => none }
def GaloisSubsWrongFalsely : Prop := galoisSubsRow.holds Try.pinned (OpenSpec.ofChange galoisSubsWrong)

/-- 'souterrainlaw.BucketSays': WHATEVER THE INPUT: true; the input reads as it did. -/
def bucketSaysSpec : ChangeSpec := { name := "bucketSays", fn := fun _ => fun
  | [d] => { results := [.lit (.bool true)], args := [d] }
  | _ => none }
def bucketSaysRow : OpenClaim := { program := "ytcilackefhieiaa", sum := "2d079949fb294d81ad5e80c4a2dff3ee9cad544d74917746fd3e46b24022c073", func := "souterrain/souterrainlaw.BucketSays", spec := "bucketSays", unfollowed := true, recurses := true, apart := false }
def BucketSaysSaid : Prop := bucketSaysRow.holds Try.pinned (OpenSpec.ofChange bucketSaysSpec)

/-- ITS FALSE NEIGHBOUR: 'it returns false'. Refute it at one input. -/
def bucketSaysWrong : ChangeSpec := { name := "bucketSays", fn := fun _ => fun
  | [d] => { results := [.lit (.bool false)], args := [d] }
  | _ => none }
def BucketSaysWrongFalsely : Prop := bucketSaysRow.holds Try.pinned (OpenSpec.ofChange bucketSaysWrong)

/-- 'souterrainlaw.GhashMuls': WHATEVER THE INPUT: true; the input reads as it did. -/
def ghashMulsSpec : ChangeSpec := { name := "ghashMuls", fn := fun _ => fun
  | [d1, d2] => { results := [.lit (.bool true)], args := [d1, d2] }
  | _ => none }
def ghashMulsRow : OpenClaim := { program := "ytcilackefhieiaa", sum := "2d079949fb294d81ad5e80c4a2dff3ee9cad544d74917746fd3e46b24022c073", func := "souterrain/souterrainlaw.GhashMuls", spec := "ghashMuls", apart := false }
def GhashMulsSaid : Prop := ghashMulsRow.holds Try.pinned (OpenSpec.ofChange ghashMulsSpec)

/-- ITS FALSE NEIGHBOUR: 'it returns false'. Refute it at one input. -/
def ghashMulsWrong : ChangeSpec := { name := "ghashMuls", fn := fun _ => fun
  | [d1, d2] => { results := [.lit (.bool false)], args := [d1, d2] }
  | _ => none }
def GhashMulsWrongFalsely : Prop := ghashMulsRow.holds Try.pinned (OpenSpec.ofChange ghashMulsWrong)

/-- 'souterrainlaw.TimerSays': WHATEVER THE INPUT: true; the input reads as it did. -/
def timerSaysSpec : ChangeSpec := { name := "timerSays", fn := fun _ => fun
  | [d] => { results := [.lit (.bool true)], args := [d] }
  | _ => none }
def timerSaysRow : OpenClaim := { program := "ytcilackefhieiaa", sum := "2d079949fb294d81ad5e80c4a2dff3ee9cad544d74917746fd3e46b24022c073", func := "souterrain/souterrainlaw.TimerSays", spec := "timerSays", apart := false }
def TimerSaysSaid : Prop := timerSaysRow.holds Try.pinned (OpenSpec.ofChange timerSaysSpec)

/-- ITS FALSE NEIGHBOUR: 'it returns false'. Refute it at one input. -/
def timerSaysWrong : ChangeSpec := { name := "timerSays", fn := fun _ => fun
  | [d] => { results := [.lit (.bool false)], args := [d] }
  | _ => none }
def TimerSaysWrongFalsely : Prop := timerSaysRow.holds Try.pinned (OpenSpec.ofChange timerSaysWrong)

/-- 'souterrainlaw.StampWrites': WHATEVER THE INPUT: true; the input reads as it did. -/
def stampWritesSpec : ChangeSpec := { name := "stampWrites", fn := fun _ => fun
  | [d1, d2] => { results := [.lit (.bool true)], args := [d1, d2] }
  | _ => none }
def stampWritesRow : OpenClaim := { program := "ytcilackefhieiaa", sum := "2d079949fb294d81ad5e80c4a2dff3ee9cad544d74917746fd3e46b24022c073", func := "souterrain/souterrainlaw.StampWrites", spec := "stampWrites", recurses := true, apart := false }
def StampWritesSaid : Prop := stampWritesRow.holds Try.pinned (OpenSpec.ofChange stampWritesSpec)

/-- ITS FALSE NEIGHBOUR: 'it returns false'. Refute it at one input. -/
def stampWritesWrong : ChangeSpec := { name := "stampWrites", fn := fun _ => fun
  | [d1, d2] => { results := [.lit (.bool false)], args := [d1, d2] }
  | _ => none }
def StampWritesWrongFalsely : Prop := stampWritesRow.holds Try.pinned (OpenSpec.ofChange stampWritesWrong)

/-- 'souterrainlaw.ChachaSubs': WHATEVER THE INPUT: true; the input reads as it did. -/
def chachaSubsSpec : ChangeSpec := { name := "chachaSubs", fn := fun _ => fun
  | [d1, d2] => { results := [.lit (.bool true)], args := [d1, d2] }
  | _ => none }
def chachaSubsRow : OpenClaim := { program := "ytcilackefhieiaa", sum := "2d079949fb294d81ad5e80c4a2dff3ee9cad544d74917746fd3e46b24022c073", func := "souterrain/souterrainlaw.ChachaSubs", spec := "chachaSubs", unfollowed := true, recurses := true, apart := false }
def ChachaSubsSaid : Prop := chachaSubsRow.holds Try.pinned (OpenSpec.ofChange chachaSubsSpec)

/-- ITS FALSE NEIGHBOUR: 'it returns false'. Refute it at one input. -/
def chachaSubsWrong : ChangeSpec := { name := "chachaSubs", fn := fun _ => fun
  | [d1, d2] => { results := [.lit (.bool false)], args := [d1, d2] }
  | _ => none }
def ChachaSubsWrongFalsely : Prop := chachaSubsRow.holds Try.pinned (OpenSpec.ofChange chachaSubsWrong)

/-- 'souterrainlaw.ChachaBlocks': WHATEVER THE INPUT: true; the input reads as it did. -/
def chachaBlocksSpec : ChangeSpec := { name := "chachaBlocks", fn := fun _ => fun
  | [d1, d2, d3] => { results := [.lit (.bool true)], args := [d1, d2, d3] }
  | _ => none }
def chachaBlocksRow : OpenClaim := { program := "ytcilackefhieiaa", sum := "2d079949fb294d81ad5e80c4a2dff3ee9cad544d74917746fd3e46b24022c073", func := "souterrain/souterrainlaw.ChachaBlocks", spec := "chachaBlocks", unfollowed := true, recurses := true, apart := false }
def ChachaBlocksSaid : Prop := chachaBlocksRow.holds Try.pinned (OpenSpec.ofChange chachaBlocksSpec)

/-- ITS FALSE NEIGHBOUR: 'it returns false'. Refute it at one input. -/
def chachaBlocksWrong : ChangeSpec := { name := "chachaBlocks", fn := fun _ => fun
  | [d1, d2, d3] => { results := [.lit (.bool false)], args := [d1, d2, d3] }
  | _ => none }
def ChachaBlocksWrongFalsely : Prop := chachaBlocksRow.holds Try.pinned (OpenSpec.ofChange chachaBlocksWrong)

/-- 'souterrainlaw.ChachaXors': WHATEVER THE INPUT: true; the input reads as it did. -/
def chachaXorsSpec : ChangeSpec := { name := "chachaXors", fn := fun _ => fun
  | [d1, d2, d3, d4] => { results := [.lit (.bool true)], args := [d1, d2, d3, d4] }
  | _ => none }
def chachaXorsRow : OpenClaim := { program := "ytcilackefhieiaa", sum := "2d079949fb294d81ad5e80c4a2dff3ee9cad544d74917746fd3e46b24022c073", func := "souterrain/souterrainlaw.ChachaXors", spec := "chachaXors", unfollowed := true, recurses := true, apart := false }
def ChachaXorsSaid : Prop := chachaXorsRow.holds Try.pinned (OpenSpec.ofChange chachaXorsSpec)

/-- ITS FALSE NEIGHBOUR: 'it returns false'. Refute it at one input. -/
def chachaXorsWrong : ChangeSpec := { name := "chachaXors", fn := fun _ => fun
  | [d1, d2, d3, d4] => { results := [.lit (.bool false)], args := [d1, d2, d3, d4] }
  | _ => none }
def ChachaXorsWrongFalsely : Prop := chachaXorsRow.holds Try.pinned (OpenSpec.ofChange chachaXorsWrong)

/- THE SECOND FORM. 'bulk': how many values and letters a reading holds, each counted each time it is reached (what is shared counts as often as it is met; a slice's spare places count too). A statement '..UptoSaid' is the law's where the arguments, and the package variables that the reading takes, are together of bulk at most 1048576: NARROWER than '..Said'. Prove '..Said' where nothing that the law and all that it calls make is longer than what came in: it says more and counts as full. Else prove '..UptoSaid'. A law counts once. -/
mutual
def uptoBulk {H : Type} : DataW H → Nat
  | .lit (.string bytes) => bytes.length + 1
  | .lit _ => 1
  | .nil => 1
  | .ptr d => uptoBulk d + 1
  | .slice elems spare => uptoBulkAll elems + uptoBulkAll spare + 1
  | .agg parts => uptoBulkAll parts + 1
  | .iface _ d => uptoBulk d + 1
  | .map entries => uptoBulkEntries entries + 1
  | .held _ => 1
def uptoBulkAll {H : Type} : List (DataW H) → Nat
  | [] => 0
  | d :: r => uptoBulk d + uptoBulkAll r
def uptoBulkEntries {H : Type} : List (Lit × DataW H) → Nat
  | [] => 0
  | x :: r => uptoBulkEntry x + uptoBulkEntries r
def uptoBulkEntry {H : Type} : Lit × DataW H → Nat
  | (.string bytes, d) => bytes.length + uptoBulk d + 1
  | (_, d) => uptoBulk d + 1
 end
def uptoSmall : (H : Type) → List (DataW H) → Bool := fun _ ds => decide (uptoBulkAll ds ≤ 1048576)
def OpenSpec.upto (s : _root_.Go.ChangeSpec) : _root_.Go.OpenSpec := { _root_.Go.OpenSpec.ofChange s with cond := some uptoSmall }

/-- 'souterrainlaw.Names', WHERE WHAT IT READS IS OF BULK AT MOST 1048576: true; the input reads as it did. -/
def namesUptoRow : OpenClaim := { program := "ytcilackefhieiaa", sum := "2d079949fb294d81ad5e80c4a2dff3ee9cad544d74917746fd3e46b24022c073", func := "souterrain/souterrainlaw.Names", spec := "names", apart := false, narrowed := true }
def NamesUptoSaid : Prop := namesUptoRow.holds Try.pinned (OpenSpec.upto namesSpec)

/-- 'souterrainlaw.StampReads', WHERE WHAT IT READS IS OF BULK AT MOST 1048576: true; the input reads as it did. -/
def stampReadsUptoRow : OpenClaim := { program := "ytcilackefhieiaa", sum := "2d079949fb294d81ad5e80c4a2dff3ee9cad544d74917746fd3e46b24022c073", func := "souterrain/souterrainlaw.StampReads", spec := "stampReads", recurses := true, apart := false, narrowed := true }
def StampReadsUptoSaid : Prop := stampReadsUptoRow.holds Try.pinned (OpenSpec.upto stampReadsSpec)

/-- 'souterrainlaw.WindowSays', WHERE WHAT IT READS IS OF BULK AT MOST 1048576: true; the input reads as it did. -/
def windowSaysUptoRow : OpenClaim := { program := "ytcilackefhieiaa", sum := "2d079949fb294d81ad5e80c4a2dff3ee9cad544d74917746fd3e46b24022c073", func := "souterrain/souterrainlaw.WindowSays", spec := "windowSays", apart := false, narrowed := true }
def WindowSaysUptoSaid : Prop := windowSaysUptoRow.holds Try.pinned (OpenSpec.upto windowSaysSpec)

/-- 'souterrainlaw.CodeHexes', WHERE WHAT IT READS IS OF BULK AT MOST 1048576: true; the input reads as it did. -/
def codeHexesUptoRow : OpenClaim := { program := "ytcilackefhieiaa", sum := "2d079949fb294d81ad5e80c4a2dff3ee9cad544d74917746fd3e46b24022c073", func := "souterrain/souterrainlaw.CodeHexes", spec := "codeHexes", inPlace := ["internal/bytealg.IndexByteString"], apart := false, narrowed := true }
def CodeHexesUptoSaid : Prop := codeHexesUptoRow.holds Try.pinned (OpenSpec.upto codeHexesSpec)

/-- 'souterrainlaw.GaloisSubs', WHERE WHAT IT READS IS OF BULK AT MOST 1048576: true; the input reads as it did. -/
def galoisSubsUptoRow : OpenClaim := { program := "ytcilackefhieiaa", sum := "2d079949fb294d81ad5e80c4a2dff3ee9cad544d74917746fd3e46b24022c073", func := "souterrain/souterrainlaw.GaloisSubs", spec := "galoisSubs", apart := false, narrowed := true }
def GaloisSubsUptoSaid : Prop := galoisSubsUptoRow.holds Try.pinned (OpenSpec.upto galoisSubsSpec)

/-- 'souterrainlaw.BucketSays', WHERE WHAT IT READS IS OF BULK AT MOST 1048576: true; the input reads as it did. -/
def bucketSaysUptoRow : OpenClaim := { program := "ytcilackefhieiaa", sum := "2d079949fb294d81ad5e80c4a2dff3ee9cad544d74917746fd3e46b24022c073", func := "souterrain/souterrainlaw.BucketSays", spec := "bucketSays", unfollowed := true, recurses := true, apart := false, narrowed := true }
def BucketSaysUptoSaid : Prop := bucketSaysUptoRow.holds Try.pinned (OpenSpec.upto bucketSaysSpec)

/-- 'souterrainlaw.GhashMuls', WHERE WHAT IT READS IS OF BULK AT MOST 1048576: true; the input reads as it did. -/
def ghashMulsUptoRow : OpenClaim := { program := "ytcilackefhieiaa", sum := "2d079949fb294d81ad5e80c4a2dff3ee9cad544d74917746fd3e46b24022c073", func := "souterrain/souterrainlaw.GhashMuls", spec := "ghashMuls", apart := false, narrowed := true }
def GhashMulsUptoSaid : Prop := ghashMulsUptoRow.holds Try.pinned (OpenSpec.upto ghashMulsSpec)

/-- 'souterrainlaw.TimerSays', WHERE WHAT IT READS IS OF BULK AT MOST 1048576: true; the input reads as it did. -/
def timerSaysUptoRow : OpenClaim := { program := "ytcilackefhieiaa", sum := "2d079949fb294d81ad5e80c4a2dff3ee9cad544d74917746fd3e46b24022c073", func := "souterrain/souterrainlaw.TimerSays", spec := "timerSays", apart := false, narrowed := true }
def TimerSaysUptoSaid : Prop := timerSaysUptoRow.holds Try.pinned (OpenSpec.upto timerSaysSpec)

/-- 'souterrainlaw.StampWrites', WHERE WHAT IT READS IS OF BULK AT MOST 1048576: true; the input reads as it did. -/
def stampWritesUptoRow : OpenClaim := { program := "ytcilackefhieiaa", sum := "2d079949fb294d81ad5e80c4a2dff3ee9cad544d74917746fd3e46b24022c073", func := "souterrain/souterrainlaw.StampWrites", spec := "stampWrites", recurses := true, apart := false, narrowed := true }
def StampWritesUptoSaid : Prop := stampWritesUptoRow.holds Try.pinned (OpenSpec.upto stampWritesSpec)

/-- 'souterrainlaw.ChachaSubs', WHERE WHAT IT READS IS OF BULK AT MOST 1048576: true; the input reads as it did. -/
def chachaSubsUptoRow : OpenClaim := { program := "ytcilackefhieiaa", sum := "2d079949fb294d81ad5e80c4a2dff3ee9cad544d74917746fd3e46b24022c073", func := "souterrain/souterrainlaw.ChachaSubs", spec := "chachaSubs", unfollowed := true, recurses := true, apart := false, narrowed := true }
def ChachaSubsUptoSaid : Prop := chachaSubsUptoRow.holds Try.pinned (OpenSpec.upto chachaSubsSpec)

/-- 'souterrainlaw.ChachaBlocks', WHERE WHAT IT READS IS OF BULK AT MOST 1048576: true; the input reads as it did. -/
def chachaBlocksUptoRow : OpenClaim := { program := "ytcilackefhieiaa", sum := "2d079949fb294d81ad5e80c4a2dff3ee9cad544d74917746fd3e46b24022c073", func := "souterrain/souterrainlaw.ChachaBlocks", spec := "chachaBlocks", unfollowed := true, recurses := true, apart := false, narrowed := true }
def ChachaBlocksUptoSaid : Prop := chachaBlocksUptoRow.holds Try.pinned (OpenSpec.upto chachaBlocksSpec)

/-- 'souterrainlaw.ChachaXors', WHERE WHAT IT READS IS OF BULK AT MOST 1048576: true; the input reads as it did. -/
def chachaXorsUptoRow : OpenClaim := { program := "ytcilackefhieiaa", sum := "2d079949fb294d81ad5e80c4a2dff3ee9cad544d74917746fd3e46b24022c073", func := "souterrain/souterrainlaw.ChachaXors", spec := "chachaXors", unfollowed := true, recurses := true, apart := false, narrowed := true }
def ChachaXorsUptoSaid : Prop := chachaXorsUptoRow.holds Try.pinned (OpenSpec.upto chachaXorsSpec)

end Rows
end Go.Proofs.Ytcilackefhieiaa
