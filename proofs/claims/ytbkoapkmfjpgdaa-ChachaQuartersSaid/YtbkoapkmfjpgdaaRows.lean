/-
  No cell of these rows narrows 'for every input' (looked for: loops, veiled, ifaces, maps, wideKeys, modest, calm, conditions, laid).
  DERIVED. THE GIVEN ROWS OF THIS SEAT. 32 by the template 'for every input the law returns true; each argument reads behind the call as it read before'; 0 by the template 'total and deterministic' (their statements: YtbkoapkmfjpgdaaTotals.lean).
  GIVEN WITH THE SEED: the statements are not yours to turn. If you find one false, say at which input.
  Laid BY PROGRAM, IN A SANDBOX (cutbox-rows.mjs): the forced cells as the released guide's own fill.sh prints them over the translation f17edb894eb4c2b2… (all of the seat's roots in one cut). By AI agents, Wed Nov 11 2026. No macro, syntax, notation, axiom, sorry.
-/
import Derived.Test.YtbkoapkmfjpgdaaChecked
import GoSem.Claim
import GoSem.ClaimJoined
import GoSem.ClaimMapViews
import Derived.JoinedTies
import Derived.KernelRfl
namespace Go.Proofs.Ytbkoapkmfjpgdaa
/- THE CELL 'sum', in the pinned program and in every row, IS THE sha256 OF THE DUMP (.gsa) THAT YtbkoapkmfjpgdaaProg.lean LOADS. Nothing in Lean hashes anything: it is a label: what it is worth is what the hold of that sum in a sandbox is worth. -/
noncomputable def Try.pinned : Pinned := { name := "ytbkoapkmfjpgdaa", sum := "f17edb894eb4c2b291a539fff908cd2b3c90b6fe99dcaa16f8644b0ddd3f437d", checked := Try.checked }
namespace Rows
def none {H : Type} : Left H := { results := [], args := [] }

/-- 'souterrainlaw.GaloisMuls': WHATEVER THE INPUT: true; the input reads as it did. -/
def galoisMulsSpec : ChangeSpec := { name := "galoisMuls", fn := fun _ => fun
  | [d1, d2] => { results := [.lit (.bool true)], args := [d1, d2] }
  | _ => none }
def galoisMulsRow : OpenClaim := { program := "ytbkoapkmfjpgdaa", sum := "f17edb894eb4c2b291a539fff908cd2b3c90b6fe99dcaa16f8644b0ddd3f437d", func := "souterrain/souterrainlaw.GaloisMuls", spec := "galoisMuls", apart := false }
def GaloisMulsSaid : Prop := galoisMulsRow.holds Try.pinned (OpenSpec.ofChange galoisMulsSpec)

/-- ITS FALSE NEIGHBOUR: 'it returns false'. Refute it at one input. -/
def galoisMulsWrong : ChangeSpec := { name := "galoisMuls", fn := fun _ => fun
  | [d1, d2] => { results := [.lit (.bool false)], args := [d1, d2] }
  | _ => none }
def GaloisMulsWrongFalsely : Prop := galoisMulsRow.holds Try.pinned (OpenSpec.ofChange galoisMulsWrong)

/-- 'souterrainlaw.CurveClamps': WHATEVER THE INPUT: true; the input reads as it did. -/
def curveClampsSpec : ChangeSpec := { name := "curveClamps", fn := fun _ => fun
  | [d] => { results := [.lit (.bool true)], args := [d] }
  | _ => none }
def curveClampsRow : OpenClaim := { program := "ytbkoapkmfjpgdaa", sum := "f17edb894eb4c2b291a539fff908cd2b3c90b6fe99dcaa16f8644b0ddd3f437d", func := "souterrain/souterrainlaw.CurveClamps", spec := "curveClamps", apart := false }
def CurveClampsSaid : Prop := curveClampsRow.holds Try.pinned (OpenSpec.ofChange curveClampsSpec)

/-- ITS FALSE NEIGHBOUR: 'it returns false'. Refute it at one input. -/
def curveClampsWrong : ChangeSpec := { name := "curveClamps", fn := fun _ => fun
  | [d] => { results := [.lit (.bool false)], args := [d] }
  | _ => none }
def CurveClampsWrongFalsely : Prop := curveClampsRow.holds Try.pinned (OpenSpec.ofChange curveClampsWrong)

/-- 'souterrainlaw.GaloisInvs': WHATEVER THE INPUT: true; the input reads as it did. -/
def galoisInvsSpec : ChangeSpec := { name := "galoisInvs", fn := fun _ => fun
  | [d] => { results := [.lit (.bool true)], args := [d] }
  | _ => none }
def galoisInvsRow : OpenClaim := { program := "ytbkoapkmfjpgdaa", sum := "f17edb894eb4c2b291a539fff908cd2b3c90b6fe99dcaa16f8644b0ddd3f437d", func := "souterrain/souterrainlaw.GaloisInvs", spec := "galoisInvs", apart := false }
def GaloisInvsSaid : Prop := galoisInvsRow.holds Try.pinned (OpenSpec.ofChange galoisInvsSpec)

/-- ITS FALSE NEIGHBOUR: 'it returns false'. Refute it at one input. -/
def galoisInvsWrong : ChangeSpec := { name := "galoisInvs", fn := fun _ => fun
  | [d] => { results := [.lit (.bool false)], args := [d] }
  | _ => none }
def GaloisInvsWrongFalsely : Prop := galoisInvsRow.holds Try.pinned (OpenSpec.ofChange galoisInvsWrong)

/-- 'souterrainlaw.StampReads': WHATEVER THE INPUT: true; the input reads as it did. -/
def stampReadsSpec : ChangeSpec := { name := "stampReads", fn := fun _ => fun
  | [d] => { results := [.lit (.bool true)], args := [d] }
  | _ => none }
def stampReadsRow : OpenClaim := { program := "ytbkoapkmfjpgdaa", sum := "f17edb894eb4c2b291a539fff908cd2b3c90b6fe99dcaa16f8644b0ddd3f437d", func := "souterrain/souterrainlaw.StampReads", spec := "stampReads", recurses := true, apart := false }
def StampReadsSaid : Prop := stampReadsRow.holds Try.pinned (OpenSpec.ofChange stampReadsSpec)

/-- ITS FALSE NEIGHBOUR: 'it returns false'. Refute it at one input. -/
def stampReadsWrong : ChangeSpec := { name := "stampReads", fn := fun _ => fun
  | [d] => { results := [.lit (.bool false)], args := [d] }
  | _ => none }
def StampReadsWrongFalsely : Prop := stampReadsRow.holds Try.pinned (OpenSpec.ofChange stampReadsWrong)

/-- 'souterrainlaw.ChachaQuarters': WHATEVER THE INPUT: true; the input reads as it did. -/
def chachaQuartersSpec : ChangeSpec := { name := "chachaQuarters", fn := fun _ => fun
  | [d1, d2, d3, d4] => { results := [.lit (.bool true)], args := [d1, d2, d3, d4] }
  | _ => none }
def chachaQuartersRow : OpenClaim := { program := "ytbkoapkmfjpgdaa", sum := "f17edb894eb4c2b291a539fff908cd2b3c90b6fe99dcaa16f8644b0ddd3f437d", func := "souterrain/souterrainlaw.ChachaQuarters", spec := "chachaQuarters", apart := false }
def ChachaQuartersSaid : Prop := chachaQuartersRow.holds Try.pinned (OpenSpec.ofChange chachaQuartersSpec)

/-- ITS FALSE NEIGHBOUR: 'it returns false'. Refute it at one input. -/
def chachaQuartersWrong : ChangeSpec := { name := "chachaQuarters", fn := fun _ => fun
  | [d1, d2, d3, d4] => { results := [.lit (.bool false)], args := [d1, d2, d3, d4] }
  | _ => none }
def ChachaQuartersWrongFalsely : Prop := chachaQuartersRow.holds Try.pinned (OpenSpec.ofChange chachaQuartersWrong)

/-- 'souterrainlaw.WindowSays': WHATEVER THE INPUT: true; the input reads as it did. -/
def windowSaysSpec : ChangeSpec := { name := "windowSays", fn := fun _ => fun
  | [d] => { results := [.lit (.bool true)], args := [d] }
  | _ => none }
def windowSaysRow : OpenClaim := { program := "ytbkoapkmfjpgdaa", sum := "f17edb894eb4c2b291a539fff908cd2b3c90b6fe99dcaa16f8644b0ddd3f437d", func := "souterrain/souterrainlaw.WindowSays", spec := "windowSays", apart := false }
def WindowSaysSaid : Prop := windowSaysRow.holds Try.pinned (OpenSpec.ofChange windowSaysSpec)

/-- ITS FALSE NEIGHBOUR: 'it returns false'. Refute it at one input. -/
def windowSaysWrong : ChangeSpec := { name := "windowSays", fn := fun _ => fun
  | [d] => { results := [.lit (.bool false)], args := [d] }
  | _ => none }
def WindowSaysWrongFalsely : Prop := windowSaysRow.holds Try.pinned (OpenSpec.ofChange windowSaysWrong)

/-- 'souterrainlaw.CodeHexes': WHATEVER THE INPUT: true; the input reads as it did. -/
def codeHexesSpec : ChangeSpec := { name := "codeHexes", fn := fun _ => fun
  | [d1, d2] => { results := [.lit (.bool true)], args := [d1, d2] }
  | _ => none }
def codeHexesRow : OpenClaim := { program := "ytbkoapkmfjpgdaa", sum := "f17edb894eb4c2b291a539fff908cd2b3c90b6fe99dcaa16f8644b0ddd3f437d", func := "souterrain/souterrainlaw.CodeHexes", spec := "codeHexes", inPlace := ["internal/bytealg.IndexByteString"], apart := false }
def CodeHexesSaid : Prop := codeHexesRow.holds Try.pinned (OpenSpec.ofChange codeHexesSpec)

/-- ITS FALSE NEIGHBOUR: 'it returns false'. Refute it at one input. -/
def codeHexesWrong : ChangeSpec := { name := "codeHexes", fn := fun _ => fun
  | [d1, d2] => { results := [.lit (.bool false)], args := [d1, d2] }
  | _ => none }
def CodeHexesWrongFalsely : Prop := codeHexesRow.holds Try.pinned (OpenSpec.ofChange codeHexesWrong)

/-- 'souterrainlaw.GaloisSubs': WHATEVER THE INPUT: true; the input reads as it did. -/
def galoisSubsSpec : ChangeSpec := { name := "galoisSubs", fn := fun _ => fun
  | [d] => { results := [.lit (.bool true)], args := [d] }
  | _ => none }
def galoisSubsRow : OpenClaim := { program := "ytbkoapkmfjpgdaa", sum := "f17edb894eb4c2b291a539fff908cd2b3c90b6fe99dcaa16f8644b0ddd3f437d", func := "souterrain/souterrainlaw.GaloisSubs", spec := "galoisSubs", apart := false }
def GaloisSubsSaid : Prop := galoisSubsRow.holds Try.pinned (OpenSpec.ofChange galoisSubsSpec)

/-- ITS FALSE NEIGHBOUR: 'it returns false'. Refute it at one input. -/
def galoisSubsWrong : ChangeSpec := { name := "galoisSubs", fn := fun _ => fun
  | [d] => { results := [.lit (.bool false)], args := [d] }
  | _ => none }
def GaloisSubsWrongFalsely : Prop := galoisSubsRow.holds Try.pinned (OpenSpec.ofChange galoisSubsWrong)

/-- 'souterrainlaw.BucketSays': WHATEVER THE INPUT: true; the input reads as it did. -/
def bucketSaysSpec : ChangeSpec := { name := "bucketSays", fn := fun _ => fun
  | [d] => { results := [.lit (.bool true)], args := [d] }
  | _ => none }
def bucketSaysRow : OpenClaim := { program := "ytbkoapkmfjpgdaa", sum := "f17edb894eb4c2b291a539fff908cd2b3c90b6fe99dcaa16f8644b0ddd3f437d", func := "souterrain/souterrainlaw.BucketSays", spec := "bucketSays", unfollowed := true, recurses := true, apart := false }
def BucketSaysSaid : Prop := bucketSaysRow.holds Try.pinned (OpenSpec.ofChange bucketSaysSpec)

/-- ITS FALSE NEIGHBOUR: 'it returns false'. Refute it at one input. -/
def bucketSaysWrong : ChangeSpec := { name := "bucketSays", fn := fun _ => fun
  | [d] => { results := [.lit (.bool false)], args := [d] }
  | _ => none }
def BucketSaysWrongFalsely : Prop := bucketSaysRow.holds Try.pinned (OpenSpec.ofChange bucketSaysWrong)

/-- 'souterrainlaw.GhashMuls': WHATEVER THE INPUT: true; the input reads as it did. -/
def ghashMulsSpec : ChangeSpec := { name := "ghashMuls", fn := fun _ => fun
  | [d1, d2] => { results := [.lit (.bool true)], args := [d1, d2] }
  | _ => none }
def ghashMulsRow : OpenClaim := { program := "ytbkoapkmfjpgdaa", sum := "f17edb894eb4c2b291a539fff908cd2b3c90b6fe99dcaa16f8644b0ddd3f437d", func := "souterrain/souterrainlaw.GhashMuls", spec := "ghashMuls", apart := false }
def GhashMulsSaid : Prop := ghashMulsRow.holds Try.pinned (OpenSpec.ofChange ghashMulsSpec)

/-- ITS FALSE NEIGHBOUR: 'it returns false'. Refute it at one input. -/
def ghashMulsWrong : ChangeSpec := { name := "ghashMuls", fn := fun _ => fun
  | [d1, d2] => { results := [.lit (.bool false)], args := [d1, d2] }
  | _ => none }
def GhashMulsWrongFalsely : Prop := ghashMulsRow.holds Try.pinned (OpenSpec.ofChange ghashMulsWrong)

/-- 'souterrainlaw.TimerSays': WHATEVER THE INPUT: true; the input reads as it did. -/
def timerSaysSpec : ChangeSpec := { name := "timerSays", fn := fun _ => fun
  | [d] => { results := [.lit (.bool true)], args := [d] }
  | _ => none }
def timerSaysRow : OpenClaim := { program := "ytbkoapkmfjpgdaa", sum := "f17edb894eb4c2b291a539fff908cd2b3c90b6fe99dcaa16f8644b0ddd3f437d", func := "souterrain/souterrainlaw.TimerSays", spec := "timerSays", apart := false }
def TimerSaysSaid : Prop := timerSaysRow.holds Try.pinned (OpenSpec.ofChange timerSaysSpec)

/-- ITS FALSE NEIGHBOUR: 'it returns false'. Refute it at one input. -/
def timerSaysWrong : ChangeSpec := { name := "timerSays", fn := fun _ => fun
  | [d] => { results := [.lit (.bool false)], args := [d] }
  | _ => none }
def TimerSaysWrongFalsely : Prop := timerSaysRow.holds Try.pinned (OpenSpec.ofChange timerSaysWrong)

/-- 'souterrainlaw.StampWrites': WHATEVER THE INPUT: true; the input reads as it did. -/
def stampWritesSpec : ChangeSpec := { name := "stampWrites", fn := fun _ => fun
  | [d1, d2] => { results := [.lit (.bool true)], args := [d1, d2] }
  | _ => none }
def stampWritesRow : OpenClaim := { program := "ytbkoapkmfjpgdaa", sum := "f17edb894eb4c2b291a539fff908cd2b3c90b6fe99dcaa16f8644b0ddd3f437d", func := "souterrain/souterrainlaw.StampWrites", spec := "stampWrites", recurses := true, apart := false }
def StampWritesSaid : Prop := stampWritesRow.holds Try.pinned (OpenSpec.ofChange stampWritesSpec)

/-- ITS FALSE NEIGHBOUR: 'it returns false'. Refute it at one input. -/
def stampWritesWrong : ChangeSpec := { name := "stampWrites", fn := fun _ => fun
  | [d1, d2] => { results := [.lit (.bool false)], args := [d1, d2] }
  | _ => none }
def StampWritesWrongFalsely : Prop := stampWritesRow.holds Try.pinned (OpenSpec.ofChange stampWritesWrong)

/-- 'souterrainlaw.ChachaSubs': WHATEVER THE INPUT: true; the input reads as it did. -/
def chachaSubsSpec : ChangeSpec := { name := "chachaSubs", fn := fun _ => fun
  | [d1, d2] => { results := [.lit (.bool true)], args := [d1, d2] }
  | _ => none }
def chachaSubsRow : OpenClaim := { program := "ytbkoapkmfjpgdaa", sum := "f17edb894eb4c2b291a539fff908cd2b3c90b6fe99dcaa16f8644b0ddd3f437d", func := "souterrain/souterrainlaw.ChachaSubs", spec := "chachaSubs", unfollowed := true, recurses := true, apart := false }
def ChachaSubsSaid : Prop := chachaSubsRow.holds Try.pinned (OpenSpec.ofChange chachaSubsSpec)

/-- ITS FALSE NEIGHBOUR: 'it returns false'. Refute it at one input. -/
def chachaSubsWrong : ChangeSpec := { name := "chachaSubs", fn := fun _ => fun
  | [d1, d2] => { results := [.lit (.bool false)], args := [d1, d2] }
  | _ => none }
def ChachaSubsWrongFalsely : Prop := chachaSubsRow.holds Try.pinned (OpenSpec.ofChange chachaSubsWrong)

/-- 'souterrainlaw.ChachaBlocks': WHATEVER THE INPUT: true; the input reads as it did. -/
def chachaBlocksSpec : ChangeSpec := { name := "chachaBlocks", fn := fun _ => fun
  | [d1, d2, d3] => { results := [.lit (.bool true)], args := [d1, d2, d3] }
  | _ => none }
def chachaBlocksRow : OpenClaim := { program := "ytbkoapkmfjpgdaa", sum := "f17edb894eb4c2b291a539fff908cd2b3c90b6fe99dcaa16f8644b0ddd3f437d", func := "souterrain/souterrainlaw.ChachaBlocks", spec := "chachaBlocks", unfollowed := true, recurses := true, apart := false }
def ChachaBlocksSaid : Prop := chachaBlocksRow.holds Try.pinned (OpenSpec.ofChange chachaBlocksSpec)

/-- ITS FALSE NEIGHBOUR: 'it returns false'. Refute it at one input. -/
def chachaBlocksWrong : ChangeSpec := { name := "chachaBlocks", fn := fun _ => fun
  | [d1, d2, d3] => { results := [.lit (.bool false)], args := [d1, d2, d3] }
  | _ => none }
def ChachaBlocksWrongFalsely : Prop := chachaBlocksRow.holds Try.pinned (OpenSpec.ofChange chachaBlocksWrong)

/-- 'souterrainlaw.PathsSays': WHATEVER THE INPUT: true; the input reads as it did. -/
def pathsSaysSpec : ChangeSpec := { name := "pathsSays", fn := fun _ => fun
  | [d1, d2] => { results := [.lit (.bool true)], args := [d1, d2] }
  | _ => none }
def pathsSaysRow : OpenClaim := { program := "ytbkoapkmfjpgdaa", sum := "f17edb894eb4c2b291a539fff908cd2b3c90b6fe99dcaa16f8644b0ddd3f437d", func := "souterrain/souterrainlaw.PathsSays", spec := "pathsSays", unfollowed := true, recurses := true, apart := false }
def PathsSaysSaid : Prop := pathsSaysRow.holds Try.pinned (OpenSpec.ofChange pathsSaysSpec)

/-- ITS FALSE NEIGHBOUR: 'it returns false'. Refute it at one input. -/
def pathsSaysWrong : ChangeSpec := { name := "pathsSays", fn := fun _ => fun
  | [d1, d2] => { results := [.lit (.bool false)], args := [d1, d2] }
  | _ => none }
def PathsSaysWrongFalsely : Prop := pathsSaysRow.holds Try.pinned (OpenSpec.ofChange pathsSaysWrong)

/-- 'souterrainlaw.ChachaXors': WHATEVER THE INPUT: true; the input reads as it did. -/
def chachaXorsSpec : ChangeSpec := { name := "chachaXors", fn := fun _ => fun
  | [d1, d2, d3, d4] => { results := [.lit (.bool true)], args := [d1, d2, d3, d4] }
  | _ => none }
def chachaXorsRow : OpenClaim := { program := "ytbkoapkmfjpgdaa", sum := "f17edb894eb4c2b291a539fff908cd2b3c90b6fe99dcaa16f8644b0ddd3f437d", func := "souterrain/souterrainlaw.ChachaXors", spec := "chachaXors", unfollowed := true, recurses := true, apart := false }
def ChachaXorsSaid : Prop := chachaXorsRow.holds Try.pinned (OpenSpec.ofChange chachaXorsSpec)

/-- ITS FALSE NEIGHBOUR: 'it returns false'. Refute it at one input. -/
def chachaXorsWrong : ChangeSpec := { name := "chachaXors", fn := fun _ => fun
  | [d1, d2, d3, d4] => { results := [.lit (.bool false)], args := [d1, d2, d3, d4] }
  | _ => none }
def ChachaXorsWrongFalsely : Prop := chachaXorsRow.holds Try.pinned (OpenSpec.ofChange chachaXorsWrong)

/-- 'souterrainlaw.PolyTags': WHATEVER THE INPUT: true; the input reads as it did. -/
def polyTagsSpec : ChangeSpec := { name := "polyTags", fn := fun _ => fun
  | [d1, d2] => { results := [.lit (.bool true)], args := [d1, d2] }
  | _ => none }
def polyTagsRow : OpenClaim := { program := "ytbkoapkmfjpgdaa", sum := "f17edb894eb4c2b291a539fff908cd2b3c90b6fe99dcaa16f8644b0ddd3f437d", func := "souterrain/souterrainlaw.PolyTags", spec := "polyTags", inPlace := ["math/bits.Add64"], apart := false }
def PolyTagsSaid : Prop := polyTagsRow.holds Try.pinned (OpenSpec.ofChange polyTagsSpec)

/-- ITS FALSE NEIGHBOUR: 'it returns false'. Refute it at one input. -/
def polyTagsWrong : ChangeSpec := { name := "polyTags", fn := fun _ => fun
  | [d1, d2] => { results := [.lit (.bool false)], args := [d1, d2] }
  | _ => none }
def PolyTagsWrongFalsely : Prop := polyTagsRow.holds Try.pinned (OpenSpec.ofChange polyTagsWrong)

/-- 'souterrainlaw.ElemPows': WHATEVER THE INPUT: true; the input reads as it did. -/
def elemPowsSpec : ChangeSpec := { name := "elemPows", fn := fun _ => fun
  | [d1, d2] => { results := [.lit (.bool true)], args := [d1, d2] }
  | _ => none }
def elemPowsRow : OpenClaim := { program := "ytbkoapkmfjpgdaa", sum := "f17edb894eb4c2b291a539fff908cd2b3c90b6fe99dcaa16f8644b0ddd3f437d", func := "souterrain/souterrainlaw.ElemPows", spec := "elemPows", inPlace := ["math/bits.Add64"], unfollowed := true, recurses := true, apart := false }
def ElemPowsSaid : Prop := elemPowsRow.holds Try.pinned (OpenSpec.ofChange elemPowsSpec)

/-- ITS FALSE NEIGHBOUR: 'it returns false'. Refute it at one input. -/
def elemPowsWrong : ChangeSpec := { name := "elemPows", fn := fun _ => fun
  | [d1, d2] => { results := [.lit (.bool false)], args := [d1, d2] }
  | _ => none }
def ElemPowsWrongFalsely : Prop := elemPowsRow.holds Try.pinned (OpenSpec.ofChange elemPowsWrong)

/-- 'souterrainlaw.GhashSums': WHATEVER THE INPUT: true; the input reads as it did. -/
def ghashSumsSpec : ChangeSpec := { name := "ghashSums", fn := fun _ => fun
  | [d1, d2, d3] => { results := [.lit (.bool true)], args := [d1, d2, d3] }
  | _ => none }
def ghashSumsRow : OpenClaim := { program := "ytbkoapkmfjpgdaa", sum := "f17edb894eb4c2b291a539fff908cd2b3c90b6fe99dcaa16f8644b0ddd3f437d", func := "souterrain/souterrainlaw.GhashSums", spec := "ghashSums", inPlace := ["internal/abi.NoEscape", "internal/bytealg.MakeNoZero"], unfollowed := true, recurses := true, apart := false }
def GhashSumsSaid : Prop := ghashSumsRow.holds Try.pinned (OpenSpec.ofChange ghashSumsSpec)

/-- ITS FALSE NEIGHBOUR: 'it returns false'. Refute it at one input. -/
def ghashSumsWrong : ChangeSpec := { name := "ghashSums", fn := fun _ => fun
  | [d1, d2, d3] => { results := [.lit (.bool false)], args := [d1, d2, d3] }
  | _ => none }
def GhashSumsWrongFalsely : Prop := ghashSumsRow.holds Try.pinned (OpenSpec.ofChange ghashSumsWrong)

/-- 'souterrainlaw.ElemLow': WHATEVER THE INPUT: true; the input reads as it did. -/
def elemLowSpec : ChangeSpec := { name := "elemLow", fn := fun _ => fun
  | [d] => { results := [.lit (.bool true)], args := [d] }
  | _ => none }
def elemLowRow : OpenClaim := { program := "ytbkoapkmfjpgdaa", sum := "f17edb894eb4c2b291a539fff908cd2b3c90b6fe99dcaa16f8644b0ddd3f437d", func := "souterrain/souterrainlaw.ElemLow", spec := "elemLow", inPlace := ["internal/abi.NoEscape", "internal/bytealg.MakeNoZero"], unfollowed := true, recurses := true, apart := false }
def ElemLowSaid : Prop := elemLowRow.holds Try.pinned (OpenSpec.ofChange elemLowSpec)

/-- ITS FALSE NEIGHBOUR: 'it returns false'. Refute it at one input. -/
def elemLowWrong : ChangeSpec := { name := "elemLow", fn := fun _ => fun
  | [d] => { results := [.lit (.bool false)], args := [d] }
  | _ => none }
def ElemLowWrongFalsely : Prop := elemLowRow.holds Try.pinned (OpenSpec.ofChange elemLowWrong)

/-- 'souterrainlaw.ElemSums': WHATEVER THE INPUT: true; the input reads as it did. -/
def elemSumsSpec : ChangeSpec := { name := "elemSums", fn := fun _ => fun
  | [d1, d2] => { results := [.lit (.bool true)], args := [d1, d2] }
  | _ => none }
def elemSumsRow : OpenClaim := { program := "ytbkoapkmfjpgdaa", sum := "f17edb894eb4c2b291a539fff908cd2b3c90b6fe99dcaa16f8644b0ddd3f437d", func := "souterrain/souterrainlaw.ElemSums", spec := "elemSums", inPlace := ["internal/abi.NoEscape", "internal/bytealg.MakeNoZero"], unfollowed := true, recurses := true, apart := false }
def ElemSumsSaid : Prop := elemSumsRow.holds Try.pinned (OpenSpec.ofChange elemSumsSpec)

/-- ITS FALSE NEIGHBOUR: 'it returns false'. Refute it at one input. -/
def elemSumsWrong : ChangeSpec := { name := "elemSums", fn := fun _ => fun
  | [d1, d2] => { results := [.lit (.bool false)], args := [d1, d2] }
  | _ => none }
def ElemSumsWrongFalsely : Prop := elemSumsRow.holds Try.pinned (OpenSpec.ofChange elemSumsWrong)

/-- 'souterrainlaw.AesExpands': WHATEVER THE INPUT: true; the input reads as it did. -/
def aesExpandsSpec : ChangeSpec := { name := "aesExpands", fn := fun _ => fun
  | [d] => { results := [.lit (.bool true)], args := [d] }
  | _ => none }
def aesExpandsRow : OpenClaim := { program := "ytbkoapkmfjpgdaa", sum := "f17edb894eb4c2b291a539fff908cd2b3c90b6fe99dcaa16f8644b0ddd3f437d", func := "souterrain/souterrainlaw.AesExpands", spec := "aesExpands", inPlace := ["internal/abi.NoEscape", "internal/bytealg.MakeNoZero"], apart := false }
def AesExpandsSaid : Prop := aesExpandsRow.holds Try.pinned (OpenSpec.ofChange aesExpandsSpec)

/-- ITS FALSE NEIGHBOUR: 'it returns false'. Refute it at one input. -/
def aesExpandsWrong : ChangeSpec := { name := "aesExpands", fn := fun _ => fun
  | [d] => { results := [.lit (.bool false)], args := [d] }
  | _ => none }
def AesExpandsWrongFalsely : Prop := aesExpandsRow.holds Try.pinned (OpenSpec.ofChange aesExpandsWrong)

/-- 'souterrainlaw.ElemMuls': WHATEVER THE INPUT: true; the input reads as it did. -/
def elemMulsSpec : ChangeSpec := { name := "elemMuls", fn := fun _ => fun
  | [d1, d2] => { results := [.lit (.bool true)], args := [d1, d2] }
  | _ => none }
def elemMulsRow : OpenClaim := { program := "ytbkoapkmfjpgdaa", sum := "f17edb894eb4c2b291a539fff908cd2b3c90b6fe99dcaa16f8644b0ddd3f437d", func := "souterrain/souterrainlaw.ElemMuls", spec := "elemMuls", inPlace := ["math/bits.Add64", "internal/abi.NoEscape", "internal/bytealg.MakeNoZero"], unfollowed := true, recurses := true, apart := false }
def ElemMulsSaid : Prop := elemMulsRow.holds Try.pinned (OpenSpec.ofChange elemMulsSpec)

/-- ITS FALSE NEIGHBOUR: 'it returns false'. Refute it at one input. -/
def elemMulsWrong : ChangeSpec := { name := "elemMuls", fn := fun _ => fun
  | [d1, d2] => { results := [.lit (.bool false)], args := [d1, d2] }
  | _ => none }
def ElemMulsWrongFalsely : Prop := elemMulsRow.holds Try.pinned (OpenSpec.ofChange elemMulsWrong)

/-- 'souterrainlaw.ElemInvs': WHATEVER THE INPUT: true; the input reads as it did. -/
def elemInvsSpec : ChangeSpec := { name := "elemInvs", fn := fun _ => fun
  | [d] => { results := [.lit (.bool true)], args := [d] }
  | _ => none }
def elemInvsRow : OpenClaim := { program := "ytbkoapkmfjpgdaa", sum := "f17edb894eb4c2b291a539fff908cd2b3c90b6fe99dcaa16f8644b0ddd3f437d", func := "souterrain/souterrainlaw.ElemInvs", spec := "elemInvs", inPlace := ["math/bits.Add64", "internal/abi.NoEscape", "internal/bytealg.MakeNoZero"], unfollowed := true, recurses := true, apart := false }
def ElemInvsSaid : Prop := elemInvsRow.holds Try.pinned (OpenSpec.ofChange elemInvsSpec)

/-- ITS FALSE NEIGHBOUR: 'it returns false'. Refute it at one input. -/
def elemInvsWrong : ChangeSpec := { name := "elemInvs", fn := fun _ => fun
  | [d] => { results := [.lit (.bool false)], args := [d] }
  | _ => none }
def ElemInvsWrongFalsely : Prop := elemInvsRow.holds Try.pinned (OpenSpec.ofChange elemInvsWrong)

/-- 'souterrainlaw.AesEncrypts': WHATEVER THE INPUT: true; the input reads as it did. -/
def aesEncryptsSpec : ChangeSpec := { name := "aesEncrypts", fn := fun _ => fun
  | [d1, d2] => { results := [.lit (.bool true)], args := [d1, d2] }
  | _ => none }
def aesEncryptsRow : OpenClaim := { program := "ytbkoapkmfjpgdaa", sum := "f17edb894eb4c2b291a539fff908cd2b3c90b6fe99dcaa16f8644b0ddd3f437d", func := "souterrain/souterrainlaw.AesEncrypts", spec := "aesEncrypts", inPlace := ["internal/abi.NoEscape", "internal/bytealg.MakeNoZero"], unfollowed := true, recurses := true, apart := false }
def AesEncryptsSaid : Prop := aesEncryptsRow.holds Try.pinned (OpenSpec.ofChange aesEncryptsSpec)

/-- ITS FALSE NEIGHBOUR: 'it returns false'. Refute it at one input. -/
def aesEncryptsWrong : ChangeSpec := { name := "aesEncrypts", fn := fun _ => fun
  | [d1, d2] => { results := [.lit (.bool false)], args := [d1, d2] }
  | _ => none }
def AesEncryptsWrongFalsely : Prop := aesEncryptsRow.holds Try.pinned (OpenSpec.ofChange aesEncryptsWrong)

/-- 'souterrainlaw.AesDecrypts': WHATEVER THE INPUT: true; the input reads as it did. -/
def aesDecryptsSpec : ChangeSpec := { name := "aesDecrypts", fn := fun _ => fun
  | [d1, d2] => { results := [.lit (.bool true)], args := [d1, d2] }
  | _ => none }
def aesDecryptsRow : OpenClaim := { program := "ytbkoapkmfjpgdaa", sum := "f17edb894eb4c2b291a539fff908cd2b3c90b6fe99dcaa16f8644b0ddd3f437d", func := "souterrain/souterrainlaw.AesDecrypts", spec := "aesDecrypts", inPlace := ["internal/abi.NoEscape", "internal/bytealg.MakeNoZero"], unfollowed := true, recurses := true, apart := false }
def AesDecryptsSaid : Prop := aesDecryptsRow.holds Try.pinned (OpenSpec.ofChange aesDecryptsSpec)

/-- ITS FALSE NEIGHBOUR: 'it returns false'. Refute it at one input. -/
def aesDecryptsWrong : ChangeSpec := { name := "aesDecrypts", fn := fun _ => fun
  | [d1, d2] => { results := [.lit (.bool false)], args := [d1, d2] }
  | _ => none }
def AesDecryptsWrongFalsely : Prop := aesDecryptsRow.holds Try.pinned (OpenSpec.ofChange aesDecryptsWrong)

/-- 'souterrainlaw.CurveMults': WHATEVER THE INPUT: true; the input reads as it did. -/
def curveMultsSpec : ChangeSpec := { name := "curveMults", fn := fun _ => fun
  | [d1, d2] => { results := [.lit (.bool true)], args := [d1, d2] }
  | _ => none }
def curveMultsRow : OpenClaim := { program := "ytbkoapkmfjpgdaa", sum := "f17edb894eb4c2b291a539fff908cd2b3c90b6fe99dcaa16f8644b0ddd3f437d", func := "souterrain/souterrainlaw.CurveMults", spec := "curveMults", inPlace := ["math/bits.Add64", "internal/abi.NoEscape", "internal/bytealg.MakeNoZero"], recurses := true, apart := false }
def CurveMultsSaid : Prop := curveMultsRow.holds Try.pinned (OpenSpec.ofChange curveMultsSpec)

/-- ITS FALSE NEIGHBOUR: 'it returns false'. Refute it at one input. -/
def curveMultsWrong : ChangeSpec := { name := "curveMults", fn := fun _ => fun
  | [d1, d2] => { results := [.lit (.bool false)], args := [d1, d2] }
  | _ => none }
def CurveMultsWrongFalsely : Prop := curveMultsRow.holds Try.pinned (OpenSpec.ofChange curveMultsWrong)

/-- 'souterrainlaw.SealSeals': WHATEVER THE INPUT: true; the input reads as it did. -/
def sealSealsSpec : ChangeSpec := { name := "sealSeals", fn := fun _ => fun
  | [d1, d2, d3, d4] => { results := [.lit (.bool true)], args := [d1, d2, d3, d4] }
  | _ => none }
def sealSealsRow : OpenClaim := { program := "ytbkoapkmfjpgdaa", sum := "f17edb894eb4c2b291a539fff908cd2b3c90b6fe99dcaa16f8644b0ddd3f437d", func := "souterrain/souterrainlaw.SealSeals", spec := "sealSeals", inPlace := ["internal/abi.NoEscape", "internal/bytealg.MakeNoZero", "math/bits.Add64"], unfollowed := true, recurses := true, apart := false }
def SealSealsSaid : Prop := sealSealsRow.holds Try.pinned (OpenSpec.ofChange sealSealsSpec)

/-- ITS FALSE NEIGHBOUR: 'it returns false'. Refute it at one input. -/
def sealSealsWrong : ChangeSpec := { name := "sealSeals", fn := fun _ => fun
  | [d1, d2, d3, d4] => { results := [.lit (.bool false)], args := [d1, d2, d3, d4] }
  | _ => none }
def SealSealsWrongFalsely : Prop := sealSealsRow.holds Try.pinned (OpenSpec.ofChange sealSealsWrong)

/-- 'souterrainlaw.SealOpens': WHATEVER THE INPUT: true; the input reads as it did. -/
def sealOpensSpec : ChangeSpec := { name := "sealOpens", fn := fun _ => fun
  | [d1, d2, d3, d4] => { results := [.lit (.bool true)], args := [d1, d2, d3, d4] }
  | _ => none }
def sealOpensRow : OpenClaim := { program := "ytbkoapkmfjpgdaa", sum := "f17edb894eb4c2b291a539fff908cd2b3c90b6fe99dcaa16f8644b0ddd3f437d", func := "souterrain/souterrainlaw.SealOpens", spec := "sealOpens", inPlace := ["internal/abi.NoEscape", "internal/bytealg.MakeNoZero", "math/bits.Add64"], unfollowed := true, recurses := true, apart := false }
def SealOpensSaid : Prop := sealOpensRow.holds Try.pinned (OpenSpec.ofChange sealOpensSpec)

/-- ITS FALSE NEIGHBOUR: 'it returns false'. Refute it at one input. -/
def sealOpensWrong : ChangeSpec := { name := "sealOpens", fn := fun _ => fun
  | [d1, d2, d3, d4] => { results := [.lit (.bool false)], args := [d1, d2, d3, d4] }
  | _ => none }
def SealOpensWrongFalsely : Prop := sealOpensRow.holds Try.pinned (OpenSpec.ofChange sealOpensWrong)

/-- 'souterrainlaw.SealLongs': WHATEVER THE INPUT: true; the input reads as it did. -/
def sealLongsSpec : ChangeSpec := { name := "sealLongs", fn := fun _ => fun
  | [d1, d2, d3, d4, d5] => { results := [.lit (.bool true)], args := [d1, d2, d3, d4, d5] }
  | _ => none }
def sealLongsRow : OpenClaim := { program := "ytbkoapkmfjpgdaa", sum := "f17edb894eb4c2b291a539fff908cd2b3c90b6fe99dcaa16f8644b0ddd3f437d", func := "souterrain/souterrainlaw.SealLongs", spec := "sealLongs", inPlace := ["internal/abi.NoEscape", "internal/bytealg.MakeNoZero", "math/bits.Add64"], unfollowed := true, recurses := true, apart := false }
def SealLongsSaid : Prop := sealLongsRow.holds Try.pinned (OpenSpec.ofChange sealLongsSpec)

/-- ITS FALSE NEIGHBOUR: 'it returns false'. Refute it at one input. -/
def sealLongsWrong : ChangeSpec := { name := "sealLongs", fn := fun _ => fun
  | [d1, d2, d3, d4, d5] => { results := [.lit (.bool false)], args := [d1, d2, d3, d4, d5] }
  | _ => none }
def SealLongsWrongFalsely : Prop := sealLongsRow.holds Try.pinned (OpenSpec.ofChange sealLongsWrong)

/-- 'souterrainlaw.GcmSeals': WHATEVER THE INPUT: true; the input reads as it did. -/
def gcmSealsSpec : ChangeSpec := { name := "gcmSeals", fn := fun _ => fun
  | [d1, d2, d3, d4] => { results := [.lit (.bool true)], args := [d1, d2, d3, d4] }
  | _ => none }
def gcmSealsRow : OpenClaim := { program := "ytbkoapkmfjpgdaa", sum := "f17edb894eb4c2b291a539fff908cd2b3c90b6fe99dcaa16f8644b0ddd3f437d", func := "souterrain/souterrainlaw.GcmSeals", spec := "gcmSeals", inPlace := ["internal/abi.NoEscape", "internal/bytealg.MakeNoZero"], unfollowed := true, recurses := true, apart := false }
def GcmSealsSaid : Prop := gcmSealsRow.holds Try.pinned (OpenSpec.ofChange gcmSealsSpec)

/-- ITS FALSE NEIGHBOUR: 'it returns false'. Refute it at one input. -/
def gcmSealsWrong : ChangeSpec := { name := "gcmSeals", fn := fun _ => fun
  | [d1, d2, d3, d4] => { results := [.lit (.bool false)], args := [d1, d2, d3, d4] }
  | _ => none }
def GcmSealsWrongFalsely : Prop := gcmSealsRow.holds Try.pinned (OpenSpec.ofChange gcmSealsWrong)

/-- 'souterrainlaw.GcmOpens': WHATEVER THE INPUT: true; the input reads as it did. -/
def gcmOpensSpec : ChangeSpec := { name := "gcmOpens", fn := fun _ => fun
  | [d1, d2, d3, d4] => { results := [.lit (.bool true)], args := [d1, d2, d3, d4] }
  | _ => none }
def gcmOpensRow : OpenClaim := { program := "ytbkoapkmfjpgdaa", sum := "f17edb894eb4c2b291a539fff908cd2b3c90b6fe99dcaa16f8644b0ddd3f437d", func := "souterrain/souterrainlaw.GcmOpens", spec := "gcmOpens", inPlace := ["internal/abi.NoEscape", "internal/bytealg.MakeNoZero"], unfollowed := true, recurses := true, apart := false }
def GcmOpensSaid : Prop := gcmOpensRow.holds Try.pinned (OpenSpec.ofChange gcmOpensSpec)

/-- ITS FALSE NEIGHBOUR: 'it returns false'. Refute it at one input. -/
def gcmOpensWrong : ChangeSpec := { name := "gcmOpens", fn := fun _ => fun
  | [d1, d2, d3, d4] => { results := [.lit (.bool false)], args := [d1, d2, d3, d4] }
  | _ => none }
def GcmOpensWrongFalsely : Prop := gcmOpensRow.holds Try.pinned (OpenSpec.ofChange gcmOpensWrong)

/- THE SECOND FORM. 'bulk': how many values and letters a reading holds, each counted each time it is reached (what is shared counts as often as it is met; a slice's spare places count too). A statement '..UptoSaid' is the law's where the arguments, and the package variables that the reading takes, are together of bulk at most 1048576: NARROWER than '..Said'. Prove '..Said' where nothing that the law and all that it calls make is longer than what came in: it says more and counts as full. Else prove '..UptoSaid'. A law counts once. -/
mutual
def uptoBulk {H : Type} : DataW H → Nat
  | .lit (.string bytes) => bytes.length + 1
  | .lit _ => 1
  | .nil => 1
  | .ptr d => uptoBulk d + 1
  | .slice elems spare => uptoBulkAll elems + uptoBulkAll spare + 1
  | .agg parts => uptoBulkAll parts + 1
  | .iface _ d => uptoBulk d + 1
  | .map entries => uptoBulkEntries entries + 1
  | .held _ => 1
def uptoBulkAll {H : Type} : List (DataW H) → Nat
  | [] => 0
  | d :: r => uptoBulk d + uptoBulkAll r
def uptoBulkEntries {H : Type} : List (Lit × DataW H) → Nat
  | [] => 0
  | x :: r => uptoBulkEntry x + uptoBulkEntries r
def uptoBulkEntry {H : Type} : Lit × DataW H → Nat
  | (.string bytes, d) => bytes.length + uptoBulk d + 1
  | (_, d) => uptoBulk d + 1
 end
def uptoSmall : (H : Type) → List (DataW H) → Bool := fun _ ds => decide (uptoBulkAll ds ≤ 1048576)
def OpenSpec.upto (s : _root_.Go.ChangeSpec) : _root_.Go.OpenSpec := { _root_.Go.OpenSpec.ofChange s with cond := some uptoSmall }

/-- 'souterrainlaw.GaloisMuls', WHERE WHAT IT READS IS OF BULK AT MOST 1048576: true; the input reads as it did. -/
def galoisMulsUptoRow : OpenClaim := { program := "ytbkoapkmfjpgdaa", sum := "f17edb894eb4c2b291a539fff908cd2b3c90b6fe99dcaa16f8644b0ddd3f437d", func := "souterrain/souterrainlaw.GaloisMuls", spec := "galoisMuls", apart := false, narrowed := true }
def GaloisMulsUptoSaid : Prop := galoisMulsUptoRow.holds Try.pinned (OpenSpec.upto galoisMulsSpec)

/-- 'souterrainlaw.CurveClamps', WHERE WHAT IT READS IS OF BULK AT MOST 1048576: true; the input reads as it did. -/
def curveClampsUptoRow : OpenClaim := { program := "ytbkoapkmfjpgdaa", sum := "f17edb894eb4c2b291a539fff908cd2b3c90b6fe99dcaa16f8644b0ddd3f437d", func := "souterrain/souterrainlaw.CurveClamps", spec := "curveClamps", apart := false, narrowed := true }
def CurveClampsUptoSaid : Prop := curveClampsUptoRow.holds Try.pinned (OpenSpec.upto curveClampsSpec)

/-- 'souterrainlaw.GaloisInvs', WHERE WHAT IT READS IS OF BULK AT MOST 1048576: true; the input reads as it did. -/
def galoisInvsUptoRow : OpenClaim := { program := "ytbkoapkmfjpgdaa", sum := "f17edb894eb4c2b291a539fff908cd2b3c90b6fe99dcaa16f8644b0ddd3f437d", func := "souterrain/souterrainlaw.GaloisInvs", spec := "galoisInvs", apart := false, narrowed := true }
def GaloisInvsUptoSaid : Prop := galoisInvsUptoRow.holds Try.pinned (OpenSpec.upto galoisInvsSpec)

/-- 'souterrainlaw.StampReads', WHERE WHAT IT READS IS OF BULK AT MOST 1048576: true; the input reads as it did. -/
def stampReadsUptoRow : OpenClaim := { program := "ytbkoapkmfjpgdaa", sum := "f17edb894eb4c2b291a539fff908cd2b3c90b6fe99dcaa16f8644b0ddd3f437d", func := "souterrain/souterrainlaw.StampReads", spec := "stampReads", recurses := true, apart := false, narrowed := true }
def StampReadsUptoSaid : Prop := stampReadsUptoRow.holds Try.pinned (OpenSpec.upto stampReadsSpec)

/-- 'souterrainlaw.ChachaQuarters', WHERE WHAT IT READS IS OF BULK AT MOST 1048576: true; the input reads as it did. -/
def chachaQuartersUptoRow : OpenClaim := { program := "ytbkoapkmfjpgdaa", sum := "f17edb894eb4c2b291a539fff908cd2b3c90b6fe99dcaa16f8644b0ddd3f437d", func := "souterrain/souterrainlaw.ChachaQuarters", spec := "chachaQuarters", apart := false, narrowed := true }
def ChachaQuartersUptoSaid : Prop := chachaQuartersUptoRow.holds Try.pinned (OpenSpec.upto chachaQuartersSpec)

/-- 'souterrainlaw.WindowSays', WHERE WHAT IT READS IS OF BULK AT MOST 1048576: true; the input reads as it did. -/
def windowSaysUptoRow : OpenClaim := { program := "ytbkoapkmfjpgdaa", sum := "f17edb894eb4c2b291a539fff908cd2b3c90b6fe99dcaa16f8644b0ddd3f437d", func := "souterrain/souterrainlaw.WindowSays", spec := "windowSays", apart := false, narrowed := true }
def WindowSaysUptoSaid : Prop := windowSaysUptoRow.holds Try.pinned (OpenSpec.upto windowSaysSpec)

/-- 'souterrainlaw.CodeHexes', WHERE WHAT IT READS IS OF BULK AT MOST 1048576: true; the input reads as it did. -/
def codeHexesUptoRow : OpenClaim := { program := "ytbkoapkmfjpgdaa", sum := "f17edb894eb4c2b291a539fff908cd2b3c90b6fe99dcaa16f8644b0ddd3f437d", func := "souterrain/souterrainlaw.CodeHexes", spec := "codeHexes", inPlace := ["internal/bytealg.IndexByteString"], apart := false, narrowed := true }
def CodeHexesUptoSaid : Prop := codeHexesUptoRow.holds Try.pinned (OpenSpec.upto codeHexesSpec)

/-- 'souterrainlaw.GaloisSubs', WHERE WHAT IT READS IS OF BULK AT MOST 1048576: true; the input reads as it did. -/
def galoisSubsUptoRow : OpenClaim := { program := "ytbkoapkmfjpgdaa", sum := "f17edb894eb4c2b291a539fff908cd2b3c90b6fe99dcaa16f8644b0ddd3f437d", func := "souterrain/souterrainlaw.GaloisSubs", spec := "galoisSubs", apart := false, narrowed := true }
def GaloisSubsUptoSaid : Prop := galoisSubsUptoRow.holds Try.pinned (OpenSpec.upto galoisSubsSpec)

/-- 'souterrainlaw.BucketSays', WHERE WHAT IT READS IS OF BULK AT MOST 1048576: true; the input reads as it did. -/
def bucketSaysUptoRow : OpenClaim := { program := "ytbkoapkmfjpgdaa", sum := "f17edb894eb4c2b291a539fff908cd2b3c90b6fe99dcaa16f8644b0ddd3f437d", func := "souterrain/souterrainlaw.BucketSays", spec := "bucketSays", unfollowed := true, recurses := true, apart := false, narrowed := true }
def BucketSaysUptoSaid : Prop := bucketSaysUptoRow.holds Try.pinned (OpenSpec.upto bucketSaysSpec)

/-- 'souterrainlaw.GhashMuls', WHERE WHAT IT READS IS OF BULK AT MOST 1048576: true; the input reads as it did. -/
def ghashMulsUptoRow : OpenClaim := { program := "ytbkoapkmfjpgdaa", sum := "f17edb894eb4c2b291a539fff908cd2b3c90b6fe99dcaa16f8644b0ddd3f437d", func := "souterrain/souterrainlaw.GhashMuls", spec := "ghashMuls", apart := false, narrowed := true }
def GhashMulsUptoSaid : Prop := ghashMulsUptoRow.holds Try.pinned (OpenSpec.upto ghashMulsSpec)

/-- 'souterrainlaw.TimerSays', WHERE WHAT IT READS IS OF BULK AT MOST 1048576: true; the input reads as it did. -/
def timerSaysUptoRow : OpenClaim := { program := "ytbkoapkmfjpgdaa", sum := "f17edb894eb4c2b291a539fff908cd2b3c90b6fe99dcaa16f8644b0ddd3f437d", func := "souterrain/souterrainlaw.TimerSays", spec := "timerSays", apart := false, narrowed := true }
def TimerSaysUptoSaid : Prop := timerSaysUptoRow.holds Try.pinned (OpenSpec.upto timerSaysSpec)

/-- 'souterrainlaw.StampWrites', WHERE WHAT IT READS IS OF BULK AT MOST 1048576: true; the input reads as it did. -/
def stampWritesUptoRow : OpenClaim := { program := "ytbkoapkmfjpgdaa", sum := "f17edb894eb4c2b291a539fff908cd2b3c90b6fe99dcaa16f8644b0ddd3f437d", func := "souterrain/souterrainlaw.StampWrites", spec := "stampWrites", recurses := true, apart := false, narrowed := true }
def StampWritesUptoSaid : Prop := stampWritesUptoRow.holds Try.pinned (OpenSpec.upto stampWritesSpec)

/-- 'souterrainlaw.ChachaSubs', WHERE WHAT IT READS IS OF BULK AT MOST 1048576: true; the input reads as it did. -/
def chachaSubsUptoRow : OpenClaim := { program := "ytbkoapkmfjpgdaa", sum := "f17edb894eb4c2b291a539fff908cd2b3c90b6fe99dcaa16f8644b0ddd3f437d", func := "souterrain/souterrainlaw.ChachaSubs", spec := "chachaSubs", unfollowed := true, recurses := true, apart := false, narrowed := true }
def ChachaSubsUptoSaid : Prop := chachaSubsUptoRow.holds Try.pinned (OpenSpec.upto chachaSubsSpec)

/-- 'souterrainlaw.ChachaBlocks', WHERE WHAT IT READS IS OF BULK AT MOST 1048576: true; the input reads as it did. -/
def chachaBlocksUptoRow : OpenClaim := { program := "ytbkoapkmfjpgdaa", sum := "f17edb894eb4c2b291a539fff908cd2b3c90b6fe99dcaa16f8644b0ddd3f437d", func := "souterrain/souterrainlaw.ChachaBlocks", spec := "chachaBlocks", unfollowed := true, recurses := true, apart := false, narrowed := true }
def ChachaBlocksUptoSaid : Prop := chachaBlocksUptoRow.holds Try.pinned (OpenSpec.upto chachaBlocksSpec)

/-- 'souterrainlaw.PathsSays', WHERE WHAT IT READS IS OF BULK AT MOST 1048576: true; the input reads as it did. -/
def pathsSaysUptoRow : OpenClaim := { program := "ytbkoapkmfjpgdaa", sum := "f17edb894eb4c2b291a539fff908cd2b3c90b6fe99dcaa16f8644b0ddd3f437d", func := "souterrain/souterrainlaw.PathsSays", spec := "pathsSays", unfollowed := true, recurses := true, apart := false, narrowed := true }
def PathsSaysUptoSaid : Prop := pathsSaysUptoRow.holds Try.pinned (OpenSpec.upto pathsSaysSpec)

/-- 'souterrainlaw.ChachaXors', WHERE WHAT IT READS IS OF BULK AT MOST 1048576: true; the input reads as it did. -/
def chachaXorsUptoRow : OpenClaim := { program := "ytbkoapkmfjpgdaa", sum := "f17edb894eb4c2b291a539fff908cd2b3c90b6fe99dcaa16f8644b0ddd3f437d", func := "souterrain/souterrainlaw.ChachaXors", spec := "chachaXors", unfollowed := true, recurses := true, apart := false, narrowed := true }
def ChachaXorsUptoSaid : Prop := chachaXorsUptoRow.holds Try.pinned (OpenSpec.upto chachaXorsSpec)

/-- 'souterrainlaw.PolyTags', WHERE WHAT IT READS IS OF BULK AT MOST 1048576: true; the input reads as it did. -/
def polyTagsUptoRow : OpenClaim := { program := "ytbkoapkmfjpgdaa", sum := "f17edb894eb4c2b291a539fff908cd2b3c90b6fe99dcaa16f8644b0ddd3f437d", func := "souterrain/souterrainlaw.PolyTags", spec := "polyTags", inPlace := ["math/bits.Add64"], apart := false, narrowed := true }
def PolyTagsUptoSaid : Prop := polyTagsUptoRow.holds Try.pinned (OpenSpec.upto polyTagsSpec)

/-- 'souterrainlaw.ElemPows', WHERE WHAT IT READS IS OF BULK AT MOST 1048576: true; the input reads as it did. -/
def elemPowsUptoRow : OpenClaim := { program := "ytbkoapkmfjpgdaa", sum := "f17edb894eb4c2b291a539fff908cd2b3c90b6fe99dcaa16f8644b0ddd3f437d", func := "souterrain/souterrainlaw.ElemPows", spec := "elemPows", inPlace := ["math/bits.Add64"], unfollowed := true, recurses := true, apart := false, narrowed := true }
def ElemPowsUptoSaid : Prop := elemPowsUptoRow.holds Try.pinned (OpenSpec.upto elemPowsSpec)

/-- 'souterrainlaw.GhashSums', WHERE WHAT IT READS IS OF BULK AT MOST 1048576: true; the input reads as it did. -/
def ghashSumsUptoRow : OpenClaim := { program := "ytbkoapkmfjpgdaa", sum := "f17edb894eb4c2b291a539fff908cd2b3c90b6fe99dcaa16f8644b0ddd3f437d", func := "souterrain/souterrainlaw.GhashSums", spec := "ghashSums", inPlace := ["internal/abi.NoEscape", "internal/bytealg.MakeNoZero"], unfollowed := true, recurses := true, apart := false, narrowed := true }
def GhashSumsUptoSaid : Prop := ghashSumsUptoRow.holds Try.pinned (OpenSpec.upto ghashSumsSpec)

/-- 'souterrainlaw.ElemLow', WHERE WHAT IT READS IS OF BULK AT MOST 1048576: true; the input reads as it did. -/
def elemLowUptoRow : OpenClaim := { program := "ytbkoapkmfjpgdaa", sum := "f17edb894eb4c2b291a539fff908cd2b3c90b6fe99dcaa16f8644b0ddd3f437d", func := "souterrain/souterrainlaw.ElemLow", spec := "elemLow", inPlace := ["internal/abi.NoEscape", "internal/bytealg.MakeNoZero"], unfollowed := true, recurses := true, apart := false, narrowed := true }
def ElemLowUptoSaid : Prop := elemLowUptoRow.holds Try.pinned (OpenSpec.upto elemLowSpec)

/-- 'souterrainlaw.ElemSums', WHERE WHAT IT READS IS OF BULK AT MOST 1048576: true; the input reads as it did. -/
def elemSumsUptoRow : OpenClaim := { program := "ytbkoapkmfjpgdaa", sum := "f17edb894eb4c2b291a539fff908cd2b3c90b6fe99dcaa16f8644b0ddd3f437d", func := "souterrain/souterrainlaw.ElemSums", spec := "elemSums", inPlace := ["internal/abi.NoEscape", "internal/bytealg.MakeNoZero"], unfollowed := true, recurses := true, apart := false, narrowed := true }
def ElemSumsUptoSaid : Prop := elemSumsUptoRow.holds Try.pinned (OpenSpec.upto elemSumsSpec)

/-- 'souterrainlaw.AesExpands', WHERE WHAT IT READS IS OF BULK AT MOST 1048576: true; the input reads as it did. -/
def aesExpandsUptoRow : OpenClaim := { program := "ytbkoapkmfjpgdaa", sum := "f17edb894eb4c2b291a539fff908cd2b3c90b6fe99dcaa16f8644b0ddd3f437d", func := "souterrain/souterrainlaw.AesExpands", spec := "aesExpands", inPlace := ["internal/abi.NoEscape", "internal/bytealg.MakeNoZero"], apart := false, narrowed := true }
def AesExpandsUptoSaid : Prop := aesExpandsUptoRow.holds Try.pinned (OpenSpec.upto aesExpandsSpec)

/-- 'souterrainlaw.ElemMuls', WHERE WHAT IT READS IS OF BULK AT MOST 1048576: true; the input reads as it did. -/
def elemMulsUptoRow : OpenClaim := { program := "ytbkoapkmfjpgdaa", sum := "f17edb894eb4c2b291a539fff908cd2b3c90b6fe99dcaa16f8644b0ddd3f437d", func := "souterrain/souterrainlaw.ElemMuls", spec := "elemMuls", inPlace := ["math/bits.Add64", "internal/abi.NoEscape", "internal/bytealg.MakeNoZero"], unfollowed := true, recurses := true, apart := false, narrowed := true }
def ElemMulsUptoSaid : Prop := elemMulsUptoRow.holds Try.pinned (OpenSpec.upto elemMulsSpec)

/-- 'souterrainlaw.ElemInvs', WHERE WHAT IT READS IS OF BULK AT MOST 1048576: true; the input reads as it did. -/
def elemInvsUptoRow : OpenClaim := { program := "ytbkoapkmfjpgdaa", sum := "f17edb894eb4c2b291a539fff908cd2b3c90b6fe99dcaa16f8644b0ddd3f437d", func := "souterrain/souterrainlaw.ElemInvs", spec := "elemInvs", inPlace := ["math/bits.Add64", "internal/abi.NoEscape", "internal/bytealg.MakeNoZero"], unfollowed := true, recurses := true, apart := false, narrowed := true }
def ElemInvsUptoSaid : Prop := elemInvsUptoRow.holds Try.pinned (OpenSpec.upto elemInvsSpec)

/-- 'souterrainlaw.AesEncrypts', WHERE WHAT IT READS IS OF BULK AT MOST 1048576: true; the input reads as it did. -/
def aesEncryptsUptoRow : OpenClaim := { program := "ytbkoapkmfjpgdaa", sum := "f17edb894eb4c2b291a539fff908cd2b3c90b6fe99dcaa16f8644b0ddd3f437d", func := "souterrain/souterrainlaw.AesEncrypts", spec := "aesEncrypts", inPlace := ["internal/abi.NoEscape", "internal/bytealg.MakeNoZero"], unfollowed := true, recurses := true, apart := false, narrowed := true }
def AesEncryptsUptoSaid : Prop := aesEncryptsUptoRow.holds Try.pinned (OpenSpec.upto aesEncryptsSpec)

/-- 'souterrainlaw.AesDecrypts', WHERE WHAT IT READS IS OF BULK AT MOST 1048576: true; the input reads as it did. -/
def aesDecryptsUptoRow : OpenClaim := { program := "ytbkoapkmfjpgdaa", sum := "f17edb894eb4c2b291a539fff908cd2b3c90b6fe99dcaa16f8644b0ddd3f437d", func := "souterrain/souterrainlaw.AesDecrypts", spec := "aesDecrypts", inPlace := ["internal/abi.NoEscape", "internal/bytealg.MakeNoZero"], unfollowed := true, recurses := true, apart := false, narrowed := true }
def AesDecryptsUptoSaid : Prop := aesDecryptsUptoRow.holds Try.pinned (OpenSpec.upto aesDecryptsSpec)

/-- 'souterrainlaw.CurveMults', WHERE WHAT IT READS IS OF BULK AT MOST 1048576: true; the input reads as it did. -/
def curveMultsUptoRow : OpenClaim := { program := "ytbkoapkmfjpgdaa", sum := "f17edb894eb4c2b291a539fff908cd2b3c90b6fe99dcaa16f8644b0ddd3f437d", func := "souterrain/souterrainlaw.CurveMults", spec := "curveMults", inPlace := ["math/bits.Add64", "internal/abi.NoEscape", "internal/bytealg.MakeNoZero"], recurses := true, apart := false, narrowed := true }
def CurveMultsUptoSaid : Prop := curveMultsUptoRow.holds Try.pinned (OpenSpec.upto curveMultsSpec)

/-- 'souterrainlaw.SealSeals', WHERE WHAT IT READS IS OF BULK AT MOST 1048576: true; the input reads as it did. -/
def sealSealsUptoRow : OpenClaim := { program := "ytbkoapkmfjpgdaa", sum := "f17edb894eb4c2b291a539fff908cd2b3c90b6fe99dcaa16f8644b0ddd3f437d", func := "souterrain/souterrainlaw.SealSeals", spec := "sealSeals", inPlace := ["internal/abi.NoEscape", "internal/bytealg.MakeNoZero", "math/bits.Add64"], unfollowed := true, recurses := true, apart := false, narrowed := true }
def SealSealsUptoSaid : Prop := sealSealsUptoRow.holds Try.pinned (OpenSpec.upto sealSealsSpec)

/-- 'souterrainlaw.SealOpens', WHERE WHAT IT READS IS OF BULK AT MOST 1048576: true; the input reads as it did. -/
def sealOpensUptoRow : OpenClaim := { program := "ytbkoapkmfjpgdaa", sum := "f17edb894eb4c2b291a539fff908cd2b3c90b6fe99dcaa16f8644b0ddd3f437d", func := "souterrain/souterrainlaw.SealOpens", spec := "sealOpens", inPlace := ["internal/abi.NoEscape", "internal/bytealg.MakeNoZero", "math/bits.Add64"], unfollowed := true, recurses := true, apart := false, narrowed := true }
def SealOpensUptoSaid : Prop := sealOpensUptoRow.holds Try.pinned (OpenSpec.upto sealOpensSpec)

/-- 'souterrainlaw.SealLongs', WHERE WHAT IT READS IS OF BULK AT MOST 1048576: true; the input reads as it did. -/
def sealLongsUptoRow : OpenClaim := { program := "ytbkoapkmfjpgdaa", sum := "f17edb894eb4c2b291a539fff908cd2b3c90b6fe99dcaa16f8644b0ddd3f437d", func := "souterrain/souterrainlaw.SealLongs", spec := "sealLongs", inPlace := ["internal/abi.NoEscape", "internal/bytealg.MakeNoZero", "math/bits.Add64"], unfollowed := true, recurses := true, apart := false, narrowed := true }
def SealLongsUptoSaid : Prop := sealLongsUptoRow.holds Try.pinned (OpenSpec.upto sealLongsSpec)

/-- 'souterrainlaw.GcmSeals', WHERE WHAT IT READS IS OF BULK AT MOST 1048576: true; the input reads as it did. -/
def gcmSealsUptoRow : OpenClaim := { program := "ytbkoapkmfjpgdaa", sum := "f17edb894eb4c2b291a539fff908cd2b3c90b6fe99dcaa16f8644b0ddd3f437d", func := "souterrain/souterrainlaw.GcmSeals", spec := "gcmSeals", inPlace := ["internal/abi.NoEscape", "internal/bytealg.MakeNoZero"], unfollowed := true, recurses := true, apart := false, narrowed := true }
def GcmSealsUptoSaid : Prop := gcmSealsUptoRow.holds Try.pinned (OpenSpec.upto gcmSealsSpec)

/-- 'souterrainlaw.GcmOpens', WHERE WHAT IT READS IS OF BULK AT MOST 1048576: true; the input reads as it did. -/
def gcmOpensUptoRow : OpenClaim := { program := "ytbkoapkmfjpgdaa", sum := "f17edb894eb4c2b291a539fff908cd2b3c90b6fe99dcaa16f8644b0ddd3f437d", func := "souterrain/souterrainlaw.GcmOpens", spec := "gcmOpens", inPlace := ["internal/abi.NoEscape", "internal/bytealg.MakeNoZero"], unfollowed := true, recurses := true, apart := false, narrowed := true }
def GcmOpensUptoSaid : Prop := gcmOpensUptoRow.holds Try.pinned (OpenSpec.upto gcmOpensSpec)

end Rows
end Go.Proofs.Ytbkoapkmfjpgdaa
