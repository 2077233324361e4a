/-
  No cell of these rows narrows 'for every input' (looked for: loops, veiled, ifaces, maps, wideKeys, modest, calm, conditions, laid).
  DERIVED. THE GIVEN ROWS OF THIS SEAT. 8 by the template 'for every input the law returns true; each argument reads behind the call as it read before'; 0 by the template 'total and deterministic' (their statements: YtfocbnegeechjaaTotals.lean).
  GIVEN WITH THE SEED: the statements are not yours to turn. If you find one false, say at which input.
  Laid BY PROGRAM, IN A SANDBOX (cutbox-rows.mjs): the forced cells as the released guide's own fill.sh prints them over the translation 0db868962109d248… (all of the seat's roots in one cut). By AI agents, Wed Nov 11 2026. No macro, syntax, notation, axiom, sorry.
-/
import Derived.Test.YtfocbnegeechjaaChecked
import GoSem.Claim
import GoSem.ClaimJoined
import GoSem.ClaimMapViews
import Derived.JoinedTies
import Derived.KernelRfl
namespace Go.Proofs.Ytfocbnegeechjaa
/- THE CELL 'sum', in the pinned program and in every row, IS THE sha256 OF THE DUMP (.gsa) THAT YtfocbnegeechjaaProg.lean LOADS. Nothing in Lean hashes anything: it is a label: what it is worth is what the hold of that sum in a sandbox is worth. -/
noncomputable def Try.pinned : Pinned := { name := "ytfocbnegeechjaa", sum := "0db868962109d248a16fd4c92a14a8109db79596a7f5fd8e5fb45b613f0a39db", checked := Try.checked }
namespace Rows
def none {H : Type} : Left H := { results := [], args := [] }

/-- 'souterrainlaw.ElemLow': WHATEVER THE INPUT: true; the input reads as it did. -/
def elemLowSpec : ChangeSpec := { name := "elemLow", fn := fun _ => fun
  | [d] => { results := [.lit (.bool true)], args := [d] }
  | _ => none }
def elemLowRow : OpenClaim := { program := "ytfocbnegeechjaa", sum := "0db868962109d248a16fd4c92a14a8109db79596a7f5fd8e5fb45b613f0a39db", func := "souterrain/souterrainlaw.ElemLow", spec := "elemLow", inPlace := ["internal/abi.NoEscape", "internal/bytealg.MakeNoZero"], unfollowed := true, recurses := true, apart := false }
def ElemLowSaid : Prop := elemLowRow.holds Try.pinned (OpenSpec.ofChange elemLowSpec)

/-- ITS FALSE NEIGHBOUR: 'it returns false'. Refute it at one input. -/
def elemLowWrong : ChangeSpec := { name := "elemLow", fn := fun _ => fun
  | [d] => { results := [.lit (.bool false)], args := [d] }
  | _ => none }
def ElemLowWrongFalsely : Prop := elemLowRow.holds Try.pinned (OpenSpec.ofChange elemLowWrong)

/-- 'souterrainlaw.ElemSums': WHATEVER THE INPUT: true; the input reads as it did. -/
def elemSumsSpec : ChangeSpec := { name := "elemSums", fn := fun _ => fun
  | [d1, d2] => { results := [.lit (.bool true)], args := [d1, d2] }
  | _ => none }
def elemSumsRow : OpenClaim := { program := "ytfocbnegeechjaa", sum := "0db868962109d248a16fd4c92a14a8109db79596a7f5fd8e5fb45b613f0a39db", func := "souterrain/souterrainlaw.ElemSums", spec := "elemSums", inPlace := ["internal/abi.NoEscape", "internal/bytealg.MakeNoZero"], unfollowed := true, recurses := true, apart := false }
def ElemSumsSaid : Prop := elemSumsRow.holds Try.pinned (OpenSpec.ofChange elemSumsSpec)

/-- ITS FALSE NEIGHBOUR: 'it returns false'. Refute it at one input. -/
def elemSumsWrong : ChangeSpec := { name := "elemSums", fn := fun _ => fun
  | [d1, d2] => { results := [.lit (.bool false)], args := [d1, d2] }
  | _ => none }
def ElemSumsWrongFalsely : Prop := elemSumsRow.holds Try.pinned (OpenSpec.ofChange elemSumsWrong)

/-- 'souterrainlaw.ElemMuls': WHATEVER THE INPUT: true; the input reads as it did. -/
def elemMulsSpec : ChangeSpec := { name := "elemMuls", fn := fun _ => fun
  | [d1, d2] => { results := [.lit (.bool true)], args := [d1, d2] }
  | _ => none }
def elemMulsRow : OpenClaim := { program := "ytfocbnegeechjaa", sum := "0db868962109d248a16fd4c92a14a8109db79596a7f5fd8e5fb45b613f0a39db", func := "souterrain/souterrainlaw.ElemMuls", spec := "elemMuls", inPlace := ["math/bits.Add64", "internal/abi.NoEscape", "internal/bytealg.MakeNoZero"], unfollowed := true, recurses := true, apart := false }
def ElemMulsSaid : Prop := elemMulsRow.holds Try.pinned (OpenSpec.ofChange elemMulsSpec)

/-- ITS FALSE NEIGHBOUR: 'it returns false'. Refute it at one input. -/
def elemMulsWrong : ChangeSpec := { name := "elemMuls", fn := fun _ => fun
  | [d1, d2] => { results := [.lit (.bool false)], args := [d1, d2] }
  | _ => none }
def ElemMulsWrongFalsely : Prop := elemMulsRow.holds Try.pinned (OpenSpec.ofChange elemMulsWrong)

/-- 'souterrainlaw.ElemPows': WHATEVER THE INPUT: true; the input reads as it did. -/
def elemPowsSpec : ChangeSpec := { name := "elemPows", fn := fun _ => fun
  | [d1, d2] => { results := [.lit (.bool true)], args := [d1, d2] }
  | _ => none }
def elemPowsRow : OpenClaim := { program := "ytfocbnegeechjaa", sum := "0db868962109d248a16fd4c92a14a8109db79596a7f5fd8e5fb45b613f0a39db", func := "souterrain/souterrainlaw.ElemPows", spec := "elemPows", inPlace := ["math/bits.Add64"], unfollowed := true, recurses := true, apart := false }
def ElemPowsSaid : Prop := elemPowsRow.holds Try.pinned (OpenSpec.ofChange elemPowsSpec)

/-- ITS FALSE NEIGHBOUR: 'it returns false'. Refute it at one input. -/
def elemPowsWrong : ChangeSpec := { name := "elemPows", fn := fun _ => fun
  | [d1, d2] => { results := [.lit (.bool false)], args := [d1, d2] }
  | _ => none }
def ElemPowsWrongFalsely : Prop := elemPowsRow.holds Try.pinned (OpenSpec.ofChange elemPowsWrong)

/-- 'souterrainlaw.ElemInvs': WHATEVER THE INPUT: true; the input reads as it did. -/
def elemInvsSpec : ChangeSpec := { name := "elemInvs", fn := fun _ => fun
  | [d] => { results := [.lit (.bool true)], args := [d] }
  | _ => none }
def elemInvsRow : OpenClaim := { program := "ytfocbnegeechjaa", sum := "0db868962109d248a16fd4c92a14a8109db79596a7f5fd8e5fb45b613f0a39db", func := "souterrain/souterrainlaw.ElemInvs", spec := "elemInvs", inPlace := ["math/bits.Add64", "internal/abi.NoEscape", "internal/bytealg.MakeNoZero"], unfollowed := true, recurses := true, apart := false }
def ElemInvsSaid : Prop := elemInvsRow.holds Try.pinned (OpenSpec.ofChange elemInvsSpec)

/-- ITS FALSE NEIGHBOUR: 'it returns false'. Refute it at one input. -/
def elemInvsWrong : ChangeSpec := { name := "elemInvs", fn := fun _ => fun
  | [d] => { results := [.lit (.bool false)], args := [d] }
  | _ => none }
def ElemInvsWrongFalsely : Prop := elemInvsRow.holds Try.pinned (OpenSpec.ofChange elemInvsWrong)

/-- 'souterrainlaw.CurveMults': WHATEVER THE INPUT: true; the input reads as it did. -/
def curveMultsSpec : ChangeSpec := { name := "curveMults", fn := fun _ => fun
  | [d1, d2] => { results := [.lit (.bool true)], args := [d1, d2] }
  | _ => none }
def curveMultsRow : OpenClaim := { program := "ytfocbnegeechjaa", sum := "0db868962109d248a16fd4c92a14a8109db79596a7f5fd8e5fb45b613f0a39db", func := "souterrain/souterrainlaw.CurveMults", spec := "curveMults", inPlace := ["math/bits.Add64", "internal/abi.NoEscape", "internal/bytealg.MakeNoZero"], recurses := true, apart := false }
def CurveMultsSaid : Prop := curveMultsRow.holds Try.pinned (OpenSpec.ofChange curveMultsSpec)

/-- ITS FALSE NEIGHBOUR: 'it returns false'. Refute it at one input. -/
def curveMultsWrong : ChangeSpec := { name := "curveMults", fn := fun _ => fun
  | [d1, d2] => { results := [.lit (.bool false)], args := [d1, d2] }
  | _ => none }
def CurveMultsWrongFalsely : Prop := curveMultsRow.holds Try.pinned (OpenSpec.ofChange curveMultsWrong)

/-- 'souterrainlaw.PathsSays': WHATEVER THE INPUT: true; the input reads as it did. -/
def pathsSaysSpec : ChangeSpec := { name := "pathsSays", fn := fun _ => fun
  | [d1, d2] => { results := [.lit (.bool true)], args := [d1, d2] }
  | _ => none }
def pathsSaysRow : OpenClaim := { program := "ytfocbnegeechjaa", sum := "0db868962109d248a16fd4c92a14a8109db79596a7f5fd8e5fb45b613f0a39db", func := "souterrain/souterrainlaw.PathsSays", spec := "pathsSays", unfollowed := true, recurses := true, apart := false }
def PathsSaysSaid : Prop := pathsSaysRow.holds Try.pinned (OpenSpec.ofChange pathsSaysSpec)

/-- ITS FALSE NEIGHBOUR: 'it returns false'. Refute it at one input. -/
def pathsSaysWrong : ChangeSpec := { name := "pathsSays", fn := fun _ => fun
  | [d1, d2] => { results := [.lit (.bool false)], args := [d1, d2] }
  | _ => none }
def PathsSaysWrongFalsely : Prop := pathsSaysRow.holds Try.pinned (OpenSpec.ofChange pathsSaysWrong)

/-- 'souterrainlaw.BucketSays': WHATEVER THE INPUT: true; the input reads as it did. -/
def bucketSaysSpec : ChangeSpec := { name := "bucketSays", fn := fun _ => fun
  | [d] => { results := [.lit (.bool true)], args := [d] }
  | _ => none }
def bucketSaysRow : OpenClaim := { program := "ytfocbnegeechjaa", sum := "0db868962109d248a16fd4c92a14a8109db79596a7f5fd8e5fb45b613f0a39db", func := "souterrain/souterrainlaw.BucketSays", spec := "bucketSays", unfollowed := true, recurses := true, apart := false }
def BucketSaysSaid : Prop := bucketSaysRow.holds Try.pinned (OpenSpec.ofChange bucketSaysSpec)

/-- ITS FALSE NEIGHBOUR: 'it returns false'. Refute it at one input. -/
def bucketSaysWrong : ChangeSpec := { name := "bucketSays", fn := fun _ => fun
  | [d] => { results := [.lit (.bool false)], args := [d] }
  | _ => none }
def BucketSaysWrongFalsely : Prop := bucketSaysRow.holds Try.pinned (OpenSpec.ofChange bucketSaysWrong)

/- THE SECOND FORM. 'bulk': how many values and letters a reading holds, each counted each time it is reached (what is shared counts as often as it is met; a slice's spare places count too). A statement '..UptoSaid' is the law's where the arguments, and the package variables that the reading takes, are together of bulk at most 1048576: NARROWER than '..Said'. Prove '..Said' where nothing that the law and all that it calls make is longer than what came in: it says more and counts as full. Else prove '..UptoSaid'. A law counts once. -/
mutual
def uptoBulk {H : Type} : DataW H → Nat
  | .lit (.string bytes) => bytes.length + 1
  | .lit _ => 1
  | .nil => 1
  | .ptr d => uptoBulk d + 1
  | .slice elems spare => uptoBulkAll elems + uptoBulkAll spare + 1
  | .agg parts => uptoBulkAll parts + 1
  | .iface _ d => uptoBulk d + 1
  | .map entries => uptoBulkEntries entries + 1
  | .held _ => 1
def uptoBulkAll {H : Type} : List (DataW H) → Nat
  | [] => 0
  | d :: r => uptoBulk d + uptoBulkAll r
def uptoBulkEntries {H : Type} : List (Lit × DataW H) → Nat
  | [] => 0
  | x :: r => uptoBulkEntry x + uptoBulkEntries r
def uptoBulkEntry {H : Type} : Lit × DataW H → Nat
  | (.string bytes, d) => bytes.length + uptoBulk d + 1
  | (_, d) => uptoBulk d + 1
 end
def uptoSmall : (H : Type) → List (DataW H) → Bool := fun _ ds => decide (uptoBulkAll ds ≤ 1048576)
def OpenSpec.upto (s : _root_.Go.ChangeSpec) : _root_.Go.OpenSpec := { _root_.Go.OpenSpec.ofChange s with cond := some uptoSmall }

/-- 'souterrainlaw.ElemLow', WHERE WHAT IT READS IS OF BULK AT MOST 1048576: true; the input reads as it did. -/
def elemLowUptoRow : OpenClaim := { program := "ytfocbnegeechjaa", sum := "0db868962109d248a16fd4c92a14a8109db79596a7f5fd8e5fb45b613f0a39db", func := "souterrain/souterrainlaw.ElemLow", spec := "elemLow", inPlace := ["internal/abi.NoEscape", "internal/bytealg.MakeNoZero"], unfollowed := true, recurses := true, apart := false, narrowed := true }
def ElemLowUptoSaid : Prop := elemLowUptoRow.holds Try.pinned (OpenSpec.upto elemLowSpec)

/-- 'souterrainlaw.ElemSums', WHERE WHAT IT READS IS OF BULK AT MOST 1048576: true; the input reads as it did. -/
def elemSumsUptoRow : OpenClaim := { program := "ytfocbnegeechjaa", sum := "0db868962109d248a16fd4c92a14a8109db79596a7f5fd8e5fb45b613f0a39db", func := "souterrain/souterrainlaw.ElemSums", spec := "elemSums", inPlace := ["internal/abi.NoEscape", "internal/bytealg.MakeNoZero"], unfollowed := true, recurses := true, apart := false, narrowed := true }
def ElemSumsUptoSaid : Prop := elemSumsUptoRow.holds Try.pinned (OpenSpec.upto elemSumsSpec)

/-- 'souterrainlaw.ElemMuls', WHERE WHAT IT READS IS OF BULK AT MOST 1048576: true; the input reads as it did. -/
def elemMulsUptoRow : OpenClaim := { program := "ytfocbnegeechjaa", sum := "0db868962109d248a16fd4c92a14a8109db79596a7f5fd8e5fb45b613f0a39db", func := "souterrain/souterrainlaw.ElemMuls", spec := "elemMuls", inPlace := ["math/bits.Add64", "internal/abi.NoEscape", "internal/bytealg.MakeNoZero"], unfollowed := true, recurses := true, apart := false, narrowed := true }
def ElemMulsUptoSaid : Prop := elemMulsUptoRow.holds Try.pinned (OpenSpec.upto elemMulsSpec)

/-- 'souterrainlaw.ElemPows', WHERE WHAT IT READS IS OF BULK AT MOST 1048576: true; the input reads as it did. -/
def elemPowsUptoRow : OpenClaim := { program := "ytfocbnegeechjaa", sum := "0db868962109d248a16fd4c92a14a8109db79596a7f5fd8e5fb45b613f0a39db", func := "souterrain/souterrainlaw.ElemPows", spec := "elemPows", inPlace := ["math/bits.Add64"], unfollowed := true, recurses := true, apart := false, narrowed := true }
def ElemPowsUptoSaid : Prop := elemPowsUptoRow.holds Try.pinned (OpenSpec.upto elemPowsSpec)

/-- 'souterrainlaw.ElemInvs', WHERE WHAT IT READS IS OF BULK AT MOST 1048576: true; the input reads as it did. -/
def elemInvsUptoRow : OpenClaim := { program := "ytfocbnegeechjaa", sum := "0db868962109d248a16fd4c92a14a8109db79596a7f5fd8e5fb45b613f0a39db", func := "souterrain/souterrainlaw.ElemInvs", spec := "elemInvs", inPlace := ["math/bits.Add64", "internal/abi.NoEscape", "internal/bytealg.MakeNoZero"], unfollowed := true, recurses := true, apart := false, narrowed := true }
def ElemInvsUptoSaid : Prop := elemInvsUptoRow.holds Try.pinned (OpenSpec.upto elemInvsSpec)

/-- 'souterrainlaw.CurveMults', WHERE WHAT IT READS IS OF BULK AT MOST 1048576: true; the input reads as it did. -/
def curveMultsUptoRow : OpenClaim := { program := "ytfocbnegeechjaa", sum := "0db868962109d248a16fd4c92a14a8109db79596a7f5fd8e5fb45b613f0a39db", func := "souterrain/souterrainlaw.CurveMults", spec := "curveMults", inPlace := ["math/bits.Add64", "internal/abi.NoEscape", "internal/bytealg.MakeNoZero"], recurses := true, apart := false, narrowed := true }
def CurveMultsUptoSaid : Prop := curveMultsUptoRow.holds Try.pinned (OpenSpec.upto curveMultsSpec)

/-- 'souterrainlaw.PathsSays', WHERE WHAT IT READS IS OF BULK AT MOST 1048576: true; the input reads as it did. -/
def pathsSaysUptoRow : OpenClaim := { program := "ytfocbnegeechjaa", sum := "0db868962109d248a16fd4c92a14a8109db79596a7f5fd8e5fb45b613f0a39db", func := "souterrain/souterrainlaw.PathsSays", spec := "pathsSays", unfollowed := true, recurses := true, apart := false, narrowed := true }
def PathsSaysUptoSaid : Prop := pathsSaysUptoRow.holds Try.pinned (OpenSpec.upto pathsSaysSpec)

/-- 'souterrainlaw.BucketSays', WHERE WHAT IT READS IS OF BULK AT MOST 1048576: true; the input reads as it did. -/
def bucketSaysUptoRow : OpenClaim := { program := "ytfocbnegeechjaa", sum := "0db868962109d248a16fd4c92a14a8109db79596a7f5fd8e5fb45b613f0a39db", func := "souterrain/souterrainlaw.BucketSays", spec := "bucketSays", unfollowed := true, recurses := true, apart := false, narrowed := true }
def BucketSaysUptoSaid : Prop := bucketSaysUptoRow.holds Try.pinned (OpenSpec.upto bucketSaysSpec)

end Rows
end Go.Proofs.Ytfocbnegeechjaa
