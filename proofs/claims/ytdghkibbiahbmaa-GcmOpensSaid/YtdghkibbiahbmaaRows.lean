/-
  No cell of these rows narrows 'for every input' (looked for: loops, veiled, ifaces, maps, wideKeys, modest, calm, conditions, laid).
  DERIVED. THE GIVEN ROWS OF THIS SEAT. 10 by the template 'for every input the law returns true; each argument reads behind the call as it read before'; 0 by the template 'total and deterministic' (their statements: YtdghkibbiahbmaaTotals.lean).
  GIVEN WITH THE SEED: the statements are not yours to turn. If you find one false, say at which input.
  Laid BY PROGRAM, IN A SANDBOX (cutbox-rows.mjs): the forced cells as the released guide's own fill.sh prints them over the translation 0ceeee67fb44e346… (all of the seat's roots in one cut). By AI agents, Wed Nov 11 2026. No macro, syntax, notation, axiom, sorry.
-/
import Derived.Test.YtdghkibbiahbmaaChecked
import GoSem.Claim
import GoSem.ClaimJoined
import GoSem.ClaimMapViews
import Derived.JoinedTies
import Derived.KernelRfl
namespace Go.Proofs.Ytdghkibbiahbmaa
/- THE CELL 'sum', in the pinned program and in every row, IS THE sha256 OF THE DUMP (.gsa) THAT YtdghkibbiahbmaaProg.lean LOADS. Nothing in Lean hashes anything: it is a label: what it is worth is what the hold of that sum in a sandbox is worth. -/
noncomputable def Try.pinned : Pinned := { name := "ytdghkibbiahbmaa", sum := "0ceeee67fb44e346a93cd1dcff2db73aed35aafb3fdf64093d2ee3ad1b48d4d0", checked := Try.checked }
namespace Rows
def none {H : Type} : Left H := { results := [], args := [] }

/-- 'souterrainlaw.PolyTags': WHATEVER THE INPUT: true; the input reads as it did. -/
def polyTagsSpec : ChangeSpec := { name := "polyTags", fn := fun _ => fun
  | [d1, d2] => { results := [.lit (.bool true)], args := [d1, d2] }
  | _ => none }
def polyTagsRow : OpenClaim := { program := "ytdghkibbiahbmaa", sum := "0ceeee67fb44e346a93cd1dcff2db73aed35aafb3fdf64093d2ee3ad1b48d4d0", func := "souterrain/souterrainlaw.PolyTags", spec := "polyTags", inPlace := ["math/bits.Add64"], apart := false }
def PolyTagsSaid : Prop := polyTagsRow.holds Try.pinned (OpenSpec.ofChange polyTagsSpec)

/-- ITS FALSE NEIGHBOUR: 'it returns false'. Refute it at one input. -/
def polyTagsWrong : ChangeSpec := { name := "polyTags", fn := fun _ => fun
  | [d1, d2] => { results := [.lit (.bool false)], args := [d1, d2] }
  | _ => none }
def PolyTagsWrongFalsely : Prop := polyTagsRow.holds Try.pinned (OpenSpec.ofChange polyTagsWrong)

/-- 'souterrainlaw.GhashSums': WHATEVER THE INPUT: true; the input reads as it did. -/
def ghashSumsSpec : ChangeSpec := { name := "ghashSums", fn := fun _ => fun
  | [d1, d2, d3] => { results := [.lit (.bool true)], args := [d1, d2, d3] }
  | _ => none }
def ghashSumsRow : OpenClaim := { program := "ytdghkibbiahbmaa", sum := "0ceeee67fb44e346a93cd1dcff2db73aed35aafb3fdf64093d2ee3ad1b48d4d0", func := "souterrain/souterrainlaw.GhashSums", spec := "ghashSums", inPlace := ["internal/abi.NoEscape", "internal/bytealg.MakeNoZero"], unfollowed := true, recurses := true, apart := false }
def GhashSumsSaid : Prop := ghashSumsRow.holds Try.pinned (OpenSpec.ofChange ghashSumsSpec)

/-- ITS FALSE NEIGHBOUR: 'it returns false'. Refute it at one input. -/
def ghashSumsWrong : ChangeSpec := { name := "ghashSums", fn := fun _ => fun
  | [d1, d2, d3] => { results := [.lit (.bool false)], args := [d1, d2, d3] }
  | _ => none }
def GhashSumsWrongFalsely : Prop := ghashSumsRow.holds Try.pinned (OpenSpec.ofChange ghashSumsWrong)

/-- 'souterrainlaw.AesExpands': WHATEVER THE INPUT: true; the input reads as it did. -/
def aesExpandsSpec : ChangeSpec := { name := "aesExpands", fn := fun _ => fun
  | [d] => { results := [.lit (.bool true)], args := [d] }
  | _ => none }
def aesExpandsRow : OpenClaim := { program := "ytdghkibbiahbmaa", sum := "0ceeee67fb44e346a93cd1dcff2db73aed35aafb3fdf64093d2ee3ad1b48d4d0", func := "souterrain/souterrainlaw.AesExpands", spec := "aesExpands", inPlace := ["internal/abi.NoEscape", "internal/bytealg.MakeNoZero"], apart := false }
def AesExpandsSaid : Prop := aesExpandsRow.holds Try.pinned (OpenSpec.ofChange aesExpandsSpec)

/-- ITS FALSE NEIGHBOUR: 'it returns false'. Refute it at one input. -/
def aesExpandsWrong : ChangeSpec := { name := "aesExpands", fn := fun _ => fun
  | [d] => { results := [.lit (.bool false)], args := [d] }
  | _ => none }
def AesExpandsWrongFalsely : Prop := aesExpandsRow.holds Try.pinned (OpenSpec.ofChange aesExpandsWrong)

/-- 'souterrainlaw.AesEncrypts': WHATEVER THE INPUT: true; the input reads as it did. -/
def aesEncryptsSpec : ChangeSpec := { name := "aesEncrypts", fn := fun _ => fun
  | [d1, d2] => { results := [.lit (.bool true)], args := [d1, d2] }
  | _ => none }
def aesEncryptsRow : OpenClaim := { program := "ytdghkibbiahbmaa", sum := "0ceeee67fb44e346a93cd1dcff2db73aed35aafb3fdf64093d2ee3ad1b48d4d0", func := "souterrain/souterrainlaw.AesEncrypts", spec := "aesEncrypts", inPlace := ["internal/abi.NoEscape", "internal/bytealg.MakeNoZero"], unfollowed := true, recurses := true, apart := false }
def AesEncryptsSaid : Prop := aesEncryptsRow.holds Try.pinned (OpenSpec.ofChange aesEncryptsSpec)

/-- ITS FALSE NEIGHBOUR: 'it returns false'. Refute it at one input. -/
def aesEncryptsWrong : ChangeSpec := { name := "aesEncrypts", fn := fun _ => fun
  | [d1, d2] => { results := [.lit (.bool false)], args := [d1, d2] }
  | _ => none }
def AesEncryptsWrongFalsely : Prop := aesEncryptsRow.holds Try.pinned (OpenSpec.ofChange aesEncryptsWrong)

/-- 'souterrainlaw.AesDecrypts': WHATEVER THE INPUT: true; the input reads as it did. -/
def aesDecryptsSpec : ChangeSpec := { name := "aesDecrypts", fn := fun _ => fun
  | [d1, d2] => { results := [.lit (.bool true)], args := [d1, d2] }
  | _ => none }
def aesDecryptsRow : OpenClaim := { program := "ytdghkibbiahbmaa", sum := "0ceeee67fb44e346a93cd1dcff2db73aed35aafb3fdf64093d2ee3ad1b48d4d0", func := "souterrain/souterrainlaw.AesDecrypts", spec := "aesDecrypts", inPlace := ["internal/abi.NoEscape", "internal/bytealg.MakeNoZero"], unfollowed := true, recurses := true, apart := false }
def AesDecryptsSaid : Prop := aesDecryptsRow.holds Try.pinned (OpenSpec.ofChange aesDecryptsSpec)

/-- ITS FALSE NEIGHBOUR: 'it returns false'. Refute it at one input. -/
def aesDecryptsWrong : ChangeSpec := { name := "aesDecrypts", fn := fun _ => fun
  | [d1, d2] => { results := [.lit (.bool false)], args := [d1, d2] }
  | _ => none }
def AesDecryptsWrongFalsely : Prop := aesDecryptsRow.holds Try.pinned (OpenSpec.ofChange aesDecryptsWrong)

/-- 'souterrainlaw.SealSeals': WHATEVER THE INPUT: true; the input reads as it did. -/
def sealSealsSpec : ChangeSpec := { name := "sealSeals", fn := fun _ => fun
  | [d1, d2, d3, d4] => { results := [.lit (.bool true)], args := [d1, d2, d3, d4] }
  | _ => none }
def sealSealsRow : OpenClaim := { program := "ytdghkibbiahbmaa", sum := "0ceeee67fb44e346a93cd1dcff2db73aed35aafb3fdf64093d2ee3ad1b48d4d0", func := "souterrain/souterrainlaw.SealSeals", spec := "sealSeals", inPlace := ["internal/abi.NoEscape", "internal/bytealg.MakeNoZero", "math/bits.Add64"], unfollowed := true, recurses := true, apart := false }
def SealSealsSaid : Prop := sealSealsRow.holds Try.pinned (OpenSpec.ofChange sealSealsSpec)

/-- ITS FALSE NEIGHBOUR: 'it returns false'. Refute it at one input. -/
def sealSealsWrong : ChangeSpec := { name := "sealSeals", fn := fun _ => fun
  | [d1, d2, d3, d4] => { results := [.lit (.bool false)], args := [d1, d2, d3, d4] }
  | _ => none }
def SealSealsWrongFalsely : Prop := sealSealsRow.holds Try.pinned (OpenSpec.ofChange sealSealsWrong)

/-- 'souterrainlaw.SealOpens': WHATEVER THE INPUT: true; the input reads as it did. -/
def sealOpensSpec : ChangeSpec := { name := "sealOpens", fn := fun _ => fun
  | [d1, d2, d3, d4] => { results := [.lit (.bool true)], args := [d1, d2, d3, d4] }
  | _ => none }
def sealOpensRow : OpenClaim := { program := "ytdghkibbiahbmaa", sum := "0ceeee67fb44e346a93cd1dcff2db73aed35aafb3fdf64093d2ee3ad1b48d4d0", func := "souterrain/souterrainlaw.SealOpens", spec := "sealOpens", inPlace := ["internal/abi.NoEscape", "internal/bytealg.MakeNoZero", "math/bits.Add64"], unfollowed := true, recurses := true, apart := false }
def SealOpensSaid : Prop := sealOpensRow.holds Try.pinned (OpenSpec.ofChange sealOpensSpec)

/-- ITS FALSE NEIGHBOUR: 'it returns false'. Refute it at one input. -/
def sealOpensWrong : ChangeSpec := { name := "sealOpens", fn := fun _ => fun
  | [d1, d2, d3, d4] => { results := [.lit (.bool false)], args := [d1, d2, d3, d4] }
  | _ => none }
def SealOpensWrongFalsely : Prop := sealOpensRow.holds Try.pinned (OpenSpec.ofChange sealOpensWrong)

/-- 'souterrainlaw.SealLongs': WHATEVER THE INPUT: true; the input reads as it did. -/
def sealLongsSpec : ChangeSpec := { name := "sealLongs", fn := fun _ => fun
  | [d1, d2, d3, d4, d5] => { results := [.lit (.bool true)], args := [d1, d2, d3, d4, d5] }
  | _ => none }
def sealLongsRow : OpenClaim := { program := "ytdghkibbiahbmaa", sum := "0ceeee67fb44e346a93cd1dcff2db73aed35aafb3fdf64093d2ee3ad1b48d4d0", func := "souterrain/souterrainlaw.SealLongs", spec := "sealLongs", inPlace := ["internal/abi.NoEscape", "internal/bytealg.MakeNoZero", "math/bits.Add64"], unfollowed := true, recurses := true, apart := false }
def SealLongsSaid : Prop := sealLongsRow.holds Try.pinned (OpenSpec.ofChange sealLongsSpec)

/-- ITS FALSE NEIGHBOUR: 'it returns false'. Refute it at one input. -/
def sealLongsWrong : ChangeSpec := { name := "sealLongs", fn := fun _ => fun
  | [d1, d2, d3, d4, d5] => { results := [.lit (.bool false)], args := [d1, d2, d3, d4, d5] }
  | _ => none }
def SealLongsWrongFalsely : Prop := sealLongsRow.holds Try.pinned (OpenSpec.ofChange sealLongsWrong)

/-- 'souterrainlaw.GcmSeals': WHATEVER THE INPUT: true; the input reads as it did. -/
def gcmSealsSpec : ChangeSpec := { name := "gcmSeals", fn := fun _ => fun
  | [d1, d2, d3, d4] => { results := [.lit (.bool true)], args := [d1, d2, d3, d4] }
  | _ => none }
def gcmSealsRow : OpenClaim := { program := "ytdghkibbiahbmaa", sum := "0ceeee67fb44e346a93cd1dcff2db73aed35aafb3fdf64093d2ee3ad1b48d4d0", func := "souterrain/souterrainlaw.GcmSeals", spec := "gcmSeals", inPlace := ["internal/abi.NoEscape", "internal/bytealg.MakeNoZero"], unfollowed := true, recurses := true, apart := false }
def GcmSealsSaid : Prop := gcmSealsRow.holds Try.pinned (OpenSpec.ofChange gcmSealsSpec)

/-- ITS FALSE NEIGHBOUR: 'it returns false'. Refute it at one input. -/
def gcmSealsWrong : ChangeSpec := { name := "gcmSeals", fn := fun _ => fun
  | [d1, d2, d3, d4] => { results := [.lit (.bool false)], args := [d1, d2, d3, d4] }
  | _ => none }
def GcmSealsWrongFalsely : Prop := gcmSealsRow.holds Try.pinned (OpenSpec.ofChange gcmSealsWrong)

/-- 'souterrainlaw.GcmOpens': WHATEVER THE INPUT: true; the input reads as it did. -/
def gcmOpensSpec : ChangeSpec := { name := "gcmOpens", fn := fun _ => fun
  | [d1, d2, d3, d4] => { results := [.lit (.bool true)], args := [d1, d2, d3, d4] }
  | _ => none }
def gcmOpensRow : OpenClaim := { program := "ytdghkibbiahbmaa", sum := "0ceeee67fb44e346a93cd1dcff2db73aed35aafb3fdf64093d2ee3ad1b48d4d0", func := "souterrain/souterrainlaw.GcmOpens", spec := "gcmOpens", inPlace := ["internal/abi.NoEscape", "internal/bytealg.MakeNoZero"], unfollowed := true, recurses := true, apart := false }
def GcmOpensSaid : Prop := gcmOpensRow.holds Try.pinned (OpenSpec.ofChange gcmOpensSpec)

/-- ITS FALSE NEIGHBOUR: 'it returns false'. Refute it at one input. -/
def gcmOpensWrong : ChangeSpec := { name := "gcmOpens", fn := fun _ => fun
  | [d1, d2, d3, d4] => { results := [.lit (.bool false)], args := [d1, d2, d3, d4] }
  | _ => none }
def GcmOpensWrongFalsely : Prop := gcmOpensRow.holds Try.pinned (OpenSpec.ofChange gcmOpensWrong)

/- THE SECOND FORM. 'bulk': how many values and letters a reading holds, each counted each time it is reached (what is shared counts as often as it is met; a slice's spare places count too). A statement '..UptoSaid' is the law's where the arguments, and the package variables that the reading takes, are together of bulk at most 1048576: NARROWER than '..Said'. Prove '..Said' where nothing that the law and all that it calls make is longer than what came in: it says more and counts as full. Else prove '..UptoSaid'. A law counts once. -/
mutual
def uptoBulk {H : Type} : DataW H → Nat
  | .lit (.string bytes) => bytes.length + 1
  | .lit _ => 1
  | .nil => 1
  | .ptr d => uptoBulk d + 1
  | .slice elems spare => uptoBulkAll elems + uptoBulkAll spare + 1
  | .agg parts => uptoBulkAll parts + 1
  | .iface _ d => uptoBulk d + 1
  | .map entries => uptoBulkEntries entries + 1
  | .held _ => 1
def uptoBulkAll {H : Type} : List (DataW H) → Nat
  | [] => 0
  | d :: r => uptoBulk d + uptoBulkAll r
def uptoBulkEntries {H : Type} : List (Lit × DataW H) → Nat
  | [] => 0
  | x :: r => uptoBulkEntry x + uptoBulkEntries r
def uptoBulkEntry {H : Type} : Lit × DataW H → Nat
  | (.string bytes, d) => bytes.length + uptoBulk d + 1
  | (_, d) => uptoBulk d + 1
 end
def uptoSmall : (H : Type) → List (DataW H) → Bool := fun _ ds => decide (uptoBulkAll ds ≤ 1048576)
def OpenSpec.upto (s : _root_.Go.ChangeSpec) : _root_.Go.OpenSpec := { _root_.Go.OpenSpec.ofChange s with cond := some uptoSmall }

/-- 'souterrainlaw.PolyTags', WHERE WHAT IT READS IS OF BULK AT MOST 1048576: true; the input reads as it did. -/
def polyTagsUptoRow : OpenClaim := { program := "ytdghkibbiahbmaa", sum := "0ceeee67fb44e346a93cd1dcff2db73aed35aafb3fdf64093d2ee3ad1b48d4d0", func := "souterrain/souterrainlaw.PolyTags", spec := "polyTags", inPlace := ["math/bits.Add64"], apart := false, narrowed := true }
def PolyTagsUptoSaid : Prop := polyTagsUptoRow.holds Try.pinned (OpenSpec.upto polyTagsSpec)

/-- 'souterrainlaw.GhashSums', WHERE WHAT IT READS IS OF BULK AT MOST 1048576: true; the input reads as it did. -/
def ghashSumsUptoRow : OpenClaim := { program := "ytdghkibbiahbmaa", sum := "0ceeee67fb44e346a93cd1dcff2db73aed35aafb3fdf64093d2ee3ad1b48d4d0", func := "souterrain/souterrainlaw.GhashSums", spec := "ghashSums", inPlace := ["internal/abi.NoEscape", "internal/bytealg.MakeNoZero"], unfollowed := true, recurses := true, apart := false, narrowed := true }
def GhashSumsUptoSaid : Prop := ghashSumsUptoRow.holds Try.pinned (OpenSpec.upto ghashSumsSpec)

/-- 'souterrainlaw.AesExpands', WHERE WHAT IT READS IS OF BULK AT MOST 1048576: true; the input reads as it did. -/
def aesExpandsUptoRow : OpenClaim := { program := "ytdghkibbiahbmaa", sum := "0ceeee67fb44e346a93cd1dcff2db73aed35aafb3fdf64093d2ee3ad1b48d4d0", func := "souterrain/souterrainlaw.AesExpands", spec := "aesExpands", inPlace := ["internal/abi.NoEscape", "internal/bytealg.MakeNoZero"], apart := false, narrowed := true }
def AesExpandsUptoSaid : Prop := aesExpandsUptoRow.holds Try.pinned (OpenSpec.upto aesExpandsSpec)

/-- 'souterrainlaw.AesEncrypts', WHERE WHAT IT READS IS OF BULK AT MOST 1048576: true; the input reads as it did. -/
def aesEncryptsUptoRow : OpenClaim := { program := "ytdghkibbiahbmaa", sum := "0ceeee67fb44e346a93cd1dcff2db73aed35aafb3fdf64093d2ee3ad1b48d4d0", func := "souterrain/souterrainlaw.AesEncrypts", spec := "aesEncrypts", inPlace := ["internal/abi.NoEscape", "internal/bytealg.MakeNoZero"], unfollowed := true, recurses := true, apart := false, narrowed := true }
def AesEncryptsUptoSaid : Prop := aesEncryptsUptoRow.holds Try.pinned (OpenSpec.upto aesEncryptsSpec)

/-- 'souterrainlaw.AesDecrypts', WHERE WHAT IT READS IS OF BULK AT MOST 1048576: true; the input reads as it did. -/
def aesDecryptsUptoRow : OpenClaim := { program := "ytdghkibbiahbmaa", sum := "0ceeee67fb44e346a93cd1dcff2db73aed35aafb3fdf64093d2ee3ad1b48d4d0", func := "souterrain/souterrainlaw.AesDecrypts", spec := "aesDecrypts", inPlace := ["internal/abi.NoEscape", "internal/bytealg.MakeNoZero"], unfollowed := true, recurses := true, apart := false, narrowed := true }
def AesDecryptsUptoSaid : Prop := aesDecryptsUptoRow.holds Try.pinned (OpenSpec.upto aesDecryptsSpec)

/-- 'souterrainlaw.SealSeals', WHERE WHAT IT READS IS OF BULK AT MOST 1048576: true; the input reads as it did. -/
def sealSealsUptoRow : OpenClaim := { program := "ytdghkibbiahbmaa", sum := "0ceeee67fb44e346a93cd1dcff2db73aed35aafb3fdf64093d2ee3ad1b48d4d0", func := "souterrain/souterrainlaw.SealSeals", spec := "sealSeals", inPlace := ["internal/abi.NoEscape", "internal/bytealg.MakeNoZero", "math/bits.Add64"], unfollowed := true, recurses := true, apart := false, narrowed := true }
def SealSealsUptoSaid : Prop := sealSealsUptoRow.holds Try.pinned (OpenSpec.upto sealSealsSpec)

/-- 'souterrainlaw.SealOpens', WHERE WHAT IT READS IS OF BULK AT MOST 1048576: true; the input reads as it did. -/
def sealOpensUptoRow : OpenClaim := { program := "ytdghkibbiahbmaa", sum := "0ceeee67fb44e346a93cd1dcff2db73aed35aafb3fdf64093d2ee3ad1b48d4d0", func := "souterrain/souterrainlaw.SealOpens", spec := "sealOpens", inPlace := ["internal/abi.NoEscape", "internal/bytealg.MakeNoZero", "math/bits.Add64"], unfollowed := true, recurses := true, apart := false, narrowed := true }
def SealOpensUptoSaid : Prop := sealOpensUptoRow.holds Try.pinned (OpenSpec.upto sealOpensSpec)

/-- 'souterrainlaw.SealLongs', WHERE WHAT IT READS IS OF BULK AT MOST 1048576: true; the input reads as it did. -/
def sealLongsUptoRow : OpenClaim := { program := "ytdghkibbiahbmaa", sum := "0ceeee67fb44e346a93cd1dcff2db73aed35aafb3fdf64093d2ee3ad1b48d4d0", func := "souterrain/souterrainlaw.SealLongs", spec := "sealLongs", inPlace := ["internal/abi.NoEscape", "internal/bytealg.MakeNoZero", "math/bits.Add64"], unfollowed := true, recurses := true, apart := false, narrowed := true }
def SealLongsUptoSaid : Prop := sealLongsUptoRow.holds Try.pinned (OpenSpec.upto sealLongsSpec)

/-- 'souterrainlaw.GcmSeals', WHERE WHAT IT READS IS OF BULK AT MOST 1048576: true; the input reads as it did. -/
def gcmSealsUptoRow : OpenClaim := { program := "ytdghkibbiahbmaa", sum := "0ceeee67fb44e346a93cd1dcff2db73aed35aafb3fdf64093d2ee3ad1b48d4d0", func := "souterrain/souterrainlaw.GcmSeals", spec := "gcmSeals", inPlace := ["internal/abi.NoEscape", "internal/bytealg.MakeNoZero"], unfollowed := true, recurses := true, apart := false, narrowed := true }
def GcmSealsUptoSaid : Prop := gcmSealsUptoRow.holds Try.pinned (OpenSpec.upto gcmSealsSpec)

/-- 'souterrainlaw.GcmOpens', WHERE WHAT IT READS IS OF BULK AT MOST 1048576: true; the input reads as it did. -/
def gcmOpensUptoRow : OpenClaim := { program := "ytdghkibbiahbmaa", sum := "0ceeee67fb44e346a93cd1dcff2db73aed35aafb3fdf64093d2ee3ad1b48d4d0", func := "souterrain/souterrainlaw.GcmOpens", spec := "gcmOpens", inPlace := ["internal/abi.NoEscape", "internal/bytealg.MakeNoZero"], unfollowed := true, recurses := true, apart := false, narrowed := true }
def GcmOpensUptoSaid : Prop := gcmOpensUptoRow.holds Try.pinned (OpenSpec.upto gcmOpensSpec)

end Rows
end Go.Proofs.Ytdghkibbiahbmaa
