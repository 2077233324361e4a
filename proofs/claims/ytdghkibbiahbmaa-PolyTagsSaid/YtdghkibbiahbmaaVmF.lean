/- One operation: the machine does what 'vop' says ('vop_sound'). -/
import Derived.Test.YtdghkibbiahbmaaVmE
set_option linter.unusedVariables false
set_option linter.unusedSimpArgs false
set_option linter.unusedSectionVars false
namespace Go.Vm
section
variable {ρ : Nat → Nat × Nat} {dom : Nat → Prop} {P : Program} {w : World}

theorem un_sound {op : UnOp} {x : V} {rx : Value} {res : Res} (h : vun op x = some res) (hx : VR ρ dom w x rx) : ∃ r, (Op.unary op rx).run P w = .ok r w ∧ VR ρ dom w res.v r := by
  have hneg : ∀ (k : IntKind) (hk : k.signed = false) (z : BitVec k.bits), (Op.unary .neg (.int k z.toNat)).run P w = .ok (.int k (-z).toNat) w := fun k hk z => by
    simp only [Op.unary, Op.intArith, Sem.run_pure]
    rw [wrap_uns k hk, Int.sub_eq_add_neg, BitVec.ofInt_add, BitVec.ofInt_neg, ofInt_toNat]
    congr 4
    rw [show BitVec.ofInt k.bits 0 = 0 by simp]; simp
  have hnot : ∀ (k : IntKind) (hk : k.signed = false) (z : BitVec k.bits), (Op.unary .xor (.int k z.toNat)).run P w = .ok (.int k (~~~z).toNat) w := fun k hk z => by
    simp only [Op.unary, Op.intBits, Sem.run_pure, hk, Bool.false_eq_true, if_false, ofInt_toNat]
    have : BitVec.ofInt k.bits k.max = BitVec.allOnes k.bits := by
      apply BitVec.eq_of_toNat_eq
      rw [BitVec.toNat_ofInt, BitVec.toNat_allOnes]
      unfold IntKind.max
      rw [hk]
      cases k <;> simp_all [IntKind.bits, IntKind.signed]
    rw [this, wrap_toNat k hk, BitVec.allOnes_xor]
  unfold vun at h
  split at h <;> simp only [Option.some.injEq, reduceCtorEq] at h <;> subst h <;> unfold VR at hx <;> subst hx
  · exact ⟨_, by simp only [Op.unary, Sem.run_pure]; rfl, by unfold VR; rfl⟩
  · exact ⟨_, hneg .u8 rfl _, by unfold VR; rfl⟩
  · exact ⟨_, hneg .u32 rfl _, by unfold VR; rfl⟩
  · exact ⟨_, hneg .u64 rfl _, by unfold VR; rfl⟩
  · exact ⟨_, by simp only [Op.unary, Op.intArith, Sem.run_pure]; rfl, by unfold VR; rfl⟩
  · exact ⟨_, hnot .u8 rfl _, by unfold VR; rfl⟩
  · exact ⟨_, hnot .u32 rfl _, by unfold VR; rfl⟩
  · exact ⟨_, hnot .u64 rfl _, by unfold VR; rfl⟩

theorem setWidth_ofInt {n m : Nat} (x : BitVec n) : BitVec.ofInt m (x.toNat : Int) = x.setWidth m := by
  apply BitVec.eq_of_toNat_eq
  rw [BitVec.toNat_ofInt, BitVec.toNat_setWidth, ← Int.natCast_emod]
  rfl
theorem convInt_sound {k : IntKind} {x v : V} {rx : Value} (h : vconvInt k x = some v) (hx : VR ρ dom w x rx) : ∃ kk n, rx = .int kk n ∧ VR ρ dom w v (.int k (k.wrap n)) := by
  have hw : ∀ (k : IntKind) (hk : k.signed = false) (n : Int) (z : BitVec k.bits), BitVec.ofInt k.bits n = z → Value.int k (k.wrap n) = .int k z.toNat := fun k hk n z hz => by rw [wrap_uns k hk, hz]
  unfold vconvInt at h
  split at h <;> simp only [Option.some.injEq, reduceCtorEq] at h <;> subst h <;> unfold VR at hx <;> subst hx
  · exact ⟨_, _, rfl, by unfold VR; exact hw .u8 rfl _ _ (ofInt_toNat _)⟩
  · exact ⟨_, _, rfl, by unfold VR; exact hw .u8 rfl _ _ (setWidth_ofInt _)⟩
  · exact ⟨_, _, rfl, by unfold VR; exact hw .u8 rfl _ _ (setWidth_ofInt _)⟩
  · exact ⟨_, _, rfl, by unfold VR; exact hw .u8 rfl _ _ rfl⟩
  · exact ⟨_, _, rfl, by unfold VR; exact hw .u32 rfl _ _ (setWidth_ofInt _)⟩
  · exact ⟨_, _, rfl, by unfold VR; exact hw .u32 rfl _ _ (ofInt_toNat _)⟩
  · exact ⟨_, _, rfl, by unfold VR; exact hw .u32 rfl _ _ (setWidth_ofInt _)⟩
  · exact ⟨_, _, rfl, by unfold VR; exact hw .u32 rfl _ _ rfl⟩
  · exact ⟨_, _, rfl, by unfold VR; exact hw .u64 rfl _ _ (setWidth_ofInt _)⟩
  · exact ⟨_, _, rfl, by unfold VR; exact hw .u64 rfl _ _ (setWidth_ofInt _)⟩
  · exact ⟨_, _, rfl, by unfold VR; exact hw .u64 rfl _ _ (ofInt_toNat _)⟩
  · exact ⟨_, _, rfl, by unfold VR; exact hw .u64 rfl _ _ rfl⟩
  · rename_i x
    have := x.isLt
    exact ⟨_, _, rfl, by unfold VR; rw [show IntKind.i64.wrap (x.toNat : Int) = w64 x.toNat from rfl, w64_of (by omega) (by omega)]⟩
  · rename_i x
    have := x.isLt
    exact ⟨_, _, rfl, by unfold VR; rw [show IntKind.i64.wrap (x.toNat : Int) = w64 x.toNat from rfl, w64_of (by omega) (by omega)]⟩
  · exact ⟨_, _, rfl, by unfold VR; rfl⟩
  · exact ⟨_, _, rfl, by unfold VR; rfl⟩
  · exact ⟨_, _, rfl, by unfold VR; rfl⟩

theorem one_oneCell {v : V} {r : Value} (h : v.one = true) (hv : VR ρ dom w v r) : r.oneCell' = true := by
  cases v <;> simp [V.one] at h <;> unfold VR at hv
  case str => obtain ⟨b, rfl, _⟩ := hv; rfl
  case ptr => obtain ⟨_, rfl⟩ := hv; rfl
  case slice => obtain ⟨_, a, c, rfl, _⟩ := hv; rfl
  case fn => obtain ⟨a, c, rfl, _⟩ := hv; rfl
  case iface => obtain ⟨a, rfl, _⟩ := hv; rfl
  all_goals (subst hv; rfl)
/-- The cells of a value that is not junk. -/
theorem cells_sound {v : V} {r : Value} (h : v ≠ .junk) (h2 : ∀ l, v ≠ .tup l) (hv : VR ρ dom w v r) : VRs ρ dom w v.cells r.cells.toList := by
  cases v
  case junk => exact absurd rfl h
  case tup l => exact absurd rfl (h2 l)
  case agg cs => unfold VR at hv; obtain ⟨a, rfl, hv⟩ := hv; exact hv
  case str => unfold VR at hv; obtain ⟨b, rfl, hb⟩ := hv; exact VRs.cons (by unfold VR; exact ⟨b, rfl, hb⟩) VRs.nil
  case ptr => unfold VR at hv; obtain ⟨hd, rfl⟩ := hv; exact VRs.cons (by unfold VR; exact ⟨hd, rfl⟩) VRs.nil
  case slice => unfold VR at hv; obtain ⟨hd, a, c, rfl, h3⟩ := hv; exact VRs.cons (by unfold VR; exact ⟨hd, a, c, rfl, h3⟩) VRs.nil
  case fn => unfold VR at hv; obtain ⟨a, c, rfl, h3⟩ := hv; exact VRs.cons (by unfold VR; exact ⟨a, c, rfl, h3⟩) VRs.nil
  case iface => unfold VR at hv; obtain ⟨a, rfl, h3⟩ := hv; exact VRs.cons (by unfold VR; exact ⟨a, rfl, h3⟩) VRs.nil
  all_goals (unfold VR at hv; subst hv; exact VRs.cons (by unfold VR; rfl) VRs.nil)
theorem ofValue_sound (r : Value) : VR ρ dom w (ofValue r) r := by
  unfold ofValue
  split
  case h_7 => unfold VR; exact ⟨_, rfl, rfl⟩
  case h_2 =>
    split
    · unfold VR; rw [BitVec.toNat_ofInt]; congr 1; simp; omega
    · unfold VR; trivial
  case h_3 =>
    split
    · unfold VR; rw [BitVec.toNat_ofInt]; congr 1; simp; omega
    · unfold VR; trivial
  case h_4 =>
    split
    · unfold VR; rw [BitVec.toNat_ofInt]; congr 1; simp; omega
    · unfold VR; trivial
  all_goals (unfold VR; first | trivial | rfl)
end
end Go.Vm
