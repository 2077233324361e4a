/- Proved: the law PathsSays answers true for every input (the statement Rows.PathsSaysSaid); no condition is added. -/
import Derived.Test.YtamiehjmabphmaaChecked
import Derived.Test.YtamiehjmabphmaaRows
import Derived.Test.YtamiehjmabphmaaVmZ2ToPuO
import Derived.Test.YtamiehjmabphmaaHeadToPtH
set_option linter.unusedVariables false
set_option linter.unusedSimpArgs false
set_option linter.unusedSectionVars false
namespace Go.Proofs.Ytamiehjmabphmaa.pathsSays
open Go.Vm Go.ChangeShapes Go.WideShapes Go.ChangeAt Go.RowKit
abbrev argKinds : List ArgK := [.row [.i64, .i64, .i64, .u32, .u32, .str, .u32, .i64] 64, .row [.u32] 4]
theorem walk : ∀ vs h, ArgsOk argKinds 0 vs h → ∃ h', Spec0 Try.prog 4 vs h (.bool true) h' := by
  rintro vs h (⟨vs', rfl, (⟨vs', rfl, rfl, rfl⟩ | ⟨asks, vs', hd, h', rfl, rfl, hr, hb, h1, h2, rfl, rfl⟩)⟩ | ⟨rows, vs', hd, h', rfl, rfl, hr, hb, h1, h2, (⟨vs', rfl, rfl, rfl⟩ | ⟨asks, vs', hd', h', rfl, rfl, hr', hb', h1', h2', rfl, rfl⟩)⟩)
  · exact ⟨_, ps_all [] ⟨fun r h => (by cases h), Nat.zero_le _, .inl ⟨rfl, rfl⟩⟩ ⟨fun r h => (by cases h), Nat.zero_le _, .inl ⟨rfl, rfl⟩⟩⟩
  · exact ⟨_, ps_all [hd] ⟨fun r h => (by cases h), Nat.zero_le _, .inl ⟨rfl, rfl⟩⟩ ⟨hr, by omega, .inr ⟨0, by simp, rfl, fun h => h1 h⟩⟩⟩
  · exact ⟨_, ps_all [hd] ⟨hr, by omega, .inr ⟨0, by simp, rfl, fun h => h1 h⟩⟩ ⟨fun r h => (by cases h), Nat.zero_le _, .inl ⟨rfl, rfl⟩⟩⟩
  · exact ⟨_, ps_all [hd, hd'] ⟨hr, by omega, .inr ⟨0, by simp, rfl, fun h => h1 h⟩⟩ ⟨hr', by omega, .inr ⟨1, by simp, rfl, fun h => h1' h⟩⟩⟩
theorem facts : joinedFacts Try.prog 4 Try.f4 Rows.pathsSaysSpec Rows.pathsSaysRow = true :=
  facts_of (by kernel_rfl) head.laidOut head.rowed (by kernel_rfl) (by kernel_rfl) (by kernel_rfl) head.stops (by kernel_rfl) head.knobs (by kernel_rfl) (by kernel_rfl) (by kernel_rfl) (by kernel_rfl)
    (by kernel_rfl) (by rw [head.plain]; rfl) (by kernel_rfl) head.heard head.mayEnter (by rw [head.lifts]; rfl) (by rw [head.make]; rfl) (by kernel_rfl) (by kernel_rfl) (by kernel_rfl) (by kernel_rfl)
theorem kinds : ArgKs Try.prog Try.f4.params.toList argKinds := ⟨⟨34, Try.underlying22, (Cells.struct 34 _ [[.i64], [.i64], [.i64], [.u32], [.u32], [.str], [.u32, .i64]] Try.underlying34 (by kernel_rfl) rfl (fun i f ks h1 h2 => match i, h1, h2 with | 0, h1, h2 => (by cases h1; cases h2; exact ⟨rfl, by kernel_rfl⟩) | 1, h1, h2 => (by cases h1; cases h2; exact ⟨rfl, by kernel_rfl⟩) | 2, h1, h2 => (by cases h1; cases h2; exact ⟨rfl, by kernel_rfl⟩) | 3, h1, h2 => (by cases h1; cases h2; exact ⟨rfl, by kernel_rfl⟩) | 4, h1, h2 => (by cases h1; cases h2; exact ⟨rfl, by kernel_rfl⟩) | 5, h1, h2 => (by cases h1; cases h2; exact ⟨rfl, by kernel_rfl⟩) | 6, h1, h2 => (by cases h1; cases h2; exact ⟨rfl, by kernel_rfl⟩) | (i + 7), h1, h2 => (by simp at h1)) (fun i f ks h1 h2 => match i, h1, h2 with | 0, h1, h2 => (by cases h1; cases h2; exact (Cells.one 3 .i64 Try.underlying3)) | 1, h1, h2 => (by cases h1; cases h2; exact (Cells.one 3 .i64 Try.underlying3)) | 2, h1, h2 => (by cases h1; cases h2; exact (Cells.one 3 .i64 Try.underlying3)) | 3, h1, h2 => (by cases h1; cases h2; exact (Cells.one 30 .u32 Try.underlying30)) | 4, h1, h2 => (by cases h1; cases h2; exact (Cells.one 30 .u32 Try.underlying30)) | 5, h1, h2 => (by cases h1; cases h2; exact (Cells.one 9 .str Try.underlying9)) | 6, h1, h2 => (by cases h1; cases h2; exact (Cells.struct 32 _ [[.u32], [.i64]] Try.underlying32 (by kernel_rfl) rfl (fun i f ks h1 h2 => match i, h1, h2 with | 0, h1, h2 => (by cases h1; cases h2; exact ⟨rfl, by kernel_rfl⟩) | 1, h1, h2 => (by cases h1; cases h2; exact ⟨rfl, by kernel_rfl⟩) | (i + 2), h1, h2 => (by simp at h1)) (fun i f ks h1 h2 => match i, h1, h2 with | 0, h1, h2 => (by cases h1; cases h2; exact (Cells.one 30 .u32 Try.underlying30)) | 1, h1, h2 => (by cases h1; cases h2; exact (Cells.one 3 .i64 Try.underlying3)) | (i + 2), h1, h2 => (by simp at h1)))) | (i + 7), h1, h2 => (by simp at h1))), by kernel_rfl, by kernel_rfl, by decide, by decide⟩, ⟨30, Try.underlying26, (Cells.one 30 .u32 Try.underlying30), by kernel_rfl, by kernel_rfl, by decide, by decide⟩, trivial⟩
theorem reads : ∀ t ∈ Try.f4.params.toList, Try.prog.readableRec t = true ∧ t < Try.prog.types.size := by
  have e : Try.f4.params.toList = [22, 26] := by kernel_rfl
  rw [e]
  intro t ht
  simp only [List.mem_cons, List.not_mem_nil, or_false] at ht
  rcases ht with rfl | rfl <;> exact ⟨by kernel_rfl, of_decide_eq_true (by kernel_rfl)⟩
set_option maxRecDepth 100000 in
theorem lifted (os : Os) (started : os.Started) (H : Type) (enc : TypeId × Value → H) :
    ReturnsInHanded {} Try.checked os 4 .any (Rows.pathsSaysSpec.pre6 enc Try.prog Try.f4 Rows.pathsSaysRow.domain false) (Rows.pathsSaysSpec.post enc Try.prog Try.f4 false true false false) := by
  refine returnsInHanded_of_change_sized (C := Try.checked) head.own started (by kernel_rfl) Try.func4
    (ChangeSpec.witness6 (enc := enc) (C := Try.checked) false ⟨#[], #[.slice none 0 0, .slice none 0 0], []⟩ 8 (by kernel_rfl) (by kernel_rfl) (by kernel_rfl) (by kernel_rfl)) ?_
  intro W base args ds gs before hval hW _ hsz _
  refine law_post2 (ks := argKinds) (tb := 4) head.laidOut reads kinds (by kernel_rfl) Try.underlying4 rfl ?_ hval hW hsz walk
  intro ds h
  match ds, h with
  | [a, b], _ => exact ⟨rfl, rfl, rfl⟩
theorem over : Rows.pathsSaysRow.holds Try.pinned (OpenSpec.ofChange Rows.pathsSaysSpec) :=
  OpenClaim.holds_of_wide 4 Try.f4 rfl rfl rfl rfl rfl rfl rfl ⟨rfl, rfl, rfl, rfl, rfl⟩ rfl rfl rfl rfl rfl (by kernel_rfl) Try.func4 facts
    (of_decide_eq_true (by kernel_rfl)) (by unfold Func.isWrapper; first | (rw [if_pos (by decide +kernel)]; kernel_rfl) | (rw [if_neg (by decide +kernel)]; exact ⟨rfl, rfl⟩))
    (fun os started H enc _ => lifted os started H enc)
theorem proved : Rows.PathsSaysSaid := over
end Go.Proofs.Ytamiehjmabphmaa.pathsSays
