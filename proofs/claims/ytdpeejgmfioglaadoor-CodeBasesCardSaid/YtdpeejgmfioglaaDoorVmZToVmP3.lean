/- A part of the proof: laws of a small machine of values, or what one function answers, proved against the model; no conditions beyond those in each theorem. -/
import Derived.ProofKit
import Derived.OpenShut
import Derived.SizedLaws
import Derived.Deep.CondSized
import Derived.Test.YtdpeejgmfioglaaDoorVmQ
import Derived.Test.YtdpeejgmfioglaaDoorVmJToVmP
set_option linter.unusedVariables false
set_option linter.unusedSimpArgs false
set_option linter.unusedSectionVars false
section
namespace Go.Vm
open Go.ChangeShapes Go.WideShapes Go.ChangeAt Go.RowKit

/-- The kinds of plain arguments. -/
inductive AK where
  | u8 | u32 | u64 | i64 | i32 | bool | str
def AK.fits (P : Program) (t : TypeId) : AK → Prop
  | .u8 => P.underlying t = some (.int .u8)
  | .u32 => P.underlying t = some (.int .u32)
  | .u64 => P.underlying t = some (.int .u64)
  | .i64 => P.underlying t = some (.int .i64)
  | .i32 => P.underlying t = some (.int .i32)
  | .bool => P.underlying t = some .bool
  | .str => P.underlying t = some .string
def AKs (P : Program) : List TypeId → List AK → Prop
  | [], [] => True
  | t :: ts, k :: ks => k.fits P t ∧ AKs P ts ks
  | _, _ => False
/-- Every list of arguments of these kinds. -/
def All : List AK → (List V → Prop) → Prop
  | [], q => q []
  | .u8 :: ks, q => ∀ x : BitVec 8, All ks fun l => q (.u8 x :: l)
  | .u32 :: ks, q => ∀ x : BitVec 32, All ks fun l => q (.u32 x :: l)
  | .u64 :: ks, q => ∀ x : BitVec 64, All ks fun l => q (.u64 x :: l)
  | .i64 :: ks, q => ∀ n : Int, -9223372036854775808 ≤ n → n ≤ 9223372036854775807 → All ks fun l => q (.i64 n :: l)
  | .i32 :: ks, q => ∀ n : Int, -2147483648 ≤ n → n ≤ 2147483647 → All ks fun l => q (.i32 n :: l)
  | .bool :: ks, q => ∀ b : Bool, All ks fun l => q (.bool b :: l)
  | .str :: ks, q => ∀ s : List (BitVec 8), s.length ≤ 140737488351232 → All ks fun l => q (.str s :: l)

theorem wf_uns {k : IntKind} {n : Int} {w : Nat} (h : (Lit.int k n).wf = true) (h1 : k.min = 0) (h2 : k.max = 2 ^ w - 1) : n = ((BitVec.ofInt w n).toNat : Int) := by
  simp only [Lit.wf, Bool.and_eq_true, decide_eq_true_eq, h1, h2] at h
  rw [BitVec.toNat_ofInt]
  have : ((2 ^ w : Nat) : Int) = 2 ^ w := by simp
  rw [this, Int.emod_eq_of_lt h.1 (by omega)]
  omega

section
variable {H : Type} {enc : TypeId × Value → H} {P : Program} {W : World} {base : Nat}
theorem open_args : ∀ {ts : List TypeId} {ks : List AK} {args : List Value} {ds : List (DataW H)} {p : List MemPlace}, AKs P ts ks → DataW.TrodAll enc P W 0 (fun _ => true) true ts args ds p →
    (∀ (j : Nat) t v, ts[j]? = some t → args[j]? = some v → Value.okWide P W .any base t v) → (DataW.weightsEach P ts ds).all (· ≤ reachBytes) = true →
    p = [] ∧ ds.length = ks.length ∧ (∃ vs, (∀ q, All ks q → q vs) ∧ VRs (fun _ => (0, 0)) (fun _ => False) W vs args) ∧ ∀ W' sp, DataW.TrodAll enc P W' 0 sp true ts args ds []
  | [], [], args, ds, p, _, hA, _, _ => by
    obtain ⟨rfl, rfl, rfl⟩ := trodAll_nil hA
    exact ⟨rfl, rfl, ⟨[], fun q h => h, by unfold VRs; rfl⟩, fun _ _ => trodAll_mk0⟩
  | t :: ts, k :: ks, args, ds, p, hk, hA, hv, hs => by
    obtain ⟨v0, vs0, d0, ds0, p0, q0, rfl, rfl, rfl, h0, r0⟩ := trodAll_cons hA
    have hs' : (DataW.weights P t d0).all (· ≤ reachBytes) = true ∧ (DataW.weightsEach P ts ds0).all (· ≤ reachBytes) = true := by
      rw [DataW.weightsEach, List.all_append, Bool.and_eq_true] at hs
      exact hs
    obtain ⟨e1, e2, ⟨vs, g1, g2⟩, g3⟩ := open_args hk.2 r0 (fun j t v h1 h2 => hv (j + 1) t v h1 h2) hs'.2
    have h00 := hv 0 t v0 rfl rfl
    subst e1
    have hf := hk.1
    have fin : ∀ (v : V), (∀ q, All (k :: ks) q → All ks fun l => q (v :: l)) → VR (fun _ => (0, 0)) (fun _ => False) W v v0 → (p0 = [] ∧ ∀ W' sp, DataW.Trod enc P W' 0 sp true t v0 d0 []) →
        p0 ++ [] = [] ∧ (d0 :: ds0).length = (k :: ks).length ∧ (∃ vs, (∀ q, All (k :: ks) q → q vs) ∧ VRs (fun _ => (0, 0)) (fun _ => False) W vs (v0 :: vs0)) ∧ ∀ W' sp, DataW.TrodAll enc P W' 0 sp true (t :: ts) (v0 :: vs0) (d0 :: ds0) [] := by
      intro v k1 k2 k3
      refine ⟨by rw [k3.1]; rfl, by simp [e2], ⟨v :: vs, fun q hq => g1 _ (k1 q hq), ?_⟩, fun W' sp => trodAll_cons_mk (k3.2 W' sp) (g3 W' sp)⟩
      unfold VRs
      exact ⟨v0, vs0, rfl, k2, g2⟩
    cases k with
    | u8 =>
      obtain ⟨n, rfl, rfl, rfl, hw⟩ := open_int hf h00 h0
      refine fin (.u8 (BitVec.ofInt 8 n)) (fun q hq => hq _) ?_ ⟨rfl, fun _ _ => shut_int hf hw⟩
      unfold VR; rw [← wf_uns (w := 8) hw rfl rfl]
    | u32 =>
      obtain ⟨n, rfl, rfl, rfl, hw⟩ := open_int hf h00 h0
      refine fin (.u32 (BitVec.ofInt 32 n)) (fun q hq => hq _) ?_ ⟨rfl, fun _ _ => shut_int hf hw⟩
      unfold VR; rw [← wf_uns (w := 32) hw rfl rfl]
    | u64 =>
      obtain ⟨n, rfl, rfl, rfl, hw⟩ := open_int hf h00 h0
      refine fin (.u64 (BitVec.ofInt 64 n)) (fun q hq => hq _) ?_ ⟨rfl, fun _ _ => shut_int hf hw⟩
      unfold VR; rw [← wf_uns (w := 64) hw rfl rfl]
    | i64 =>
      obtain ⟨n, rfl, rfl, rfl, hw⟩ := open_int hf h00 h0
      have hw' : -9223372036854775808 ≤ n ∧ n ≤ 9223372036854775807 := by simpa [Lit.wf, IntKind.min, IntKind.max, IntKind.bits, IntKind.signed] using hw
      exact fin (.i64 n) (fun q hq => hq _ hw'.1 hw'.2) (by unfold VR; rfl) ⟨rfl, fun _ _ => shut_int hf hw⟩
    | i32 =>
      obtain ⟨n, rfl, rfl, rfl, hw⟩ := open_int hf h00 h0
      have hw' : -2147483648 ≤ n ∧ n ≤ 2147483647 := by simpa [Lit.wf, IntKind.min, IntKind.max, IntKind.bits, IntKind.signed] using hw
      exact fin (.i32 n) (fun q hq => hq _ hw'.1 hw'.2) (by unfold VR; rfl) ⟨rfl, fun _ _ => shut_int hf hw⟩
    | bool =>
      obtain ⟨b, rfl, rfl, rfl⟩ := open_bool hf h00 h0
      exact fin (.bool b) (fun q hq => hq _) (by unfold VR; rfl) ⟨rfl, fun _ _ => shut_bool hf _⟩
    | str =>
      obtain ⟨s, rfl, rfl, rfl, hw⟩ := Go.ChangeMaps.open_string hf h00 h0
      have hl : (bytesOf s).length ≤ 140737488351232 := by
        have := hs'.1
        simp [DataW.weights, reachBytes] at this
        simp [bytesOf]
        exact of_decide_eq_true this
      exact fin (.str (bytesOf s)) (fun q hq => hq _ hl) (by unfold VR; exact ⟨s, rfl, rfl⟩) ⟨rfl, fun _ _ => Go.ChangeMaps.shut_string hf hw⟩
  | [], _ :: _, _, _, _, h, _, _, _ => h.elim
  | _ :: _, [], _, _, _, h, _, _, _ => h.elim

/-- A pure function leaves all that was there. -/
theorem pure_calls {f : FuncId} {args : List V} {rargs : Array Value} {b : Bool} (h : PureFn P f args (.bool b)) (hr : VRs (fun _ => (0, 0)) (fun _ => False) W args rargs.toList) :
    Calls P f rargs W fun e w' => e = .returned (.bool b) ∧ W.keptBut w' (fun _ => False) := by
  refine (h.2 (fun _ => none) 0 (fun _ => (0, 0)) (fun _ => False) (fun _ => none) W rargs ⟨fun _ _ h => by simp at h, fun _ _ h => by simp at h, fun _ _ _ _ h => by simp at h, fun _ _ h => by simp at h, fun _ _ h => by simp at h⟩ hr (fun _ _ => rfl) (fun _ _ _ h => h)).mono ?_
  rintro e w' ⟨r, ρ', rfl, _, _, g3, g4⟩
  unfold VR at g3
  refine ⟨by rw [g3], g4.os, g4.output, fun i hi => ?_⟩
  rw [g4.keep i hi (fun b B h => by simp at h)]
  exact (World.keptBut_refl W (fun _ => False)).2.2 i hi

/-- A LAW: the function answers true and nothing that it was handed turns. -/
theorem law_post {f : FuncId} {fn : Func} {s : ChangeSpec} {tb : TypeId} {ks : List AK} {args : Array Value} {ds gs : List (DataW H)} {before : List MemPlace} {apart fresh handsOn again : Bool}
    (hk : AKs P fn.params.toList ks) (hres : fn.resultTypes = #[tb]) (htb : P.underlying tb = some .bool) (hvars : s.vars = [])
    (hspec : ∀ ds : List (DataW H), ds.length = ks.length → (s.fn H ds).results = [.lit (.bool true)] ∧ (s.fn H ds).args = ds ∧ (s.fn H ds).vars = [])
    (hval : ∀ (j : Nat) t v, fn.params[j]? = some t → args[j]? = some v → Value.okWide P W .any base t v)
    (hW : DataW.Whole enc P fn.params.toList s.vars apart W args.toList ds gs before) (hsz : (DataW.weightsEach P (fn.params.toList ++ s.plain.varTypes P) (ds ++ gs)).all (· ≤ reachBytes) = true)
    (law : All ks fun vs => PureFn P f vs (.bool true)) :
    Calls P f args W fun e W' => ∃ v, e = .returned v ∧ s.post enc P fn apart fresh handsOn again W args v W' := by
  have hW' := hW
  obtain ⟨p, q, hA, hV, rfl, hfz, hnd⟩ := hW
  rw [hvars] at hV
  obtain ⟨rfl, rfl⟩ := trodVars_none hV
  have hs2 : (DataW.weightsEach P fn.params.toList ds).all (· ≤ reachBytes) = true := by
    have : s.plain.varTypes P = [] := by simp [ChangeSpec.plain, DataSpec.varTypes, hvars]
    rw [this, List.append_nil, List.append_nil] at hsz
    exact hsz
  obtain ⟨rfl, hl, ⟨vs, g1, g2⟩, g3⟩ := open_args hk hA (fun j t v h1 h2 => hval j t v (by simpa using h1) (by simpa using h2)) hs2
  obtain ⟨k1, k2, k3⟩ := hspec ds hl
  refine (pure_calls (g1 _ law) g2).mono fun e W' ⟨he, hg⟩ => ?_
  subst he
  have r1 : ∀ b sp hd, DataW.TrodAll enc P W' b sp hd fn.resultTypes.toList ((Value.bool true).resultList fn.resultTypes.size) (s.fn H (ds ++ [])).results [] := fun b sp hd => by
    rw [hres, List.append_nil, k1]; exact trodAll_cons_mk (shut_bool htb _) trodAll_mk0
  have r2 : ∀ sp, DataW.TrodAll enc P W' 0 sp true fn.params.toList args.toList (s.fn H (ds ++ [])).args [] := fun sp => by
    rw [List.append_nil, k2]; exact g3 _ _
  have r3 : ∀ sp, DataW.TrodVars enc P W' sp s.vars (s.fn H (ds ++ [])).vars [] := fun sp => by
    rw [hvars, List.append_nil, k3]; rfl
  refine ⟨_, rfl, ds, [], [], [], [], [], hW', r1 _ _ _, r2 _, r3 _, World.keptBut_mono (fun _ f => f.elim) hg, fun _ => ?_⟩
  refine ⟨ok_one hres rfl (okWide_bool_mk htb _), _, _, ([] ++ []) ++ [], ⟨[] ++ [], [], trodAll_append (r2 _) (r1 _ _ _), r3 _, rfl, ?_, ?_⟩, ?_⟩
  · intro b off hp; simp at hp
  · intro _; simp
  · intro p hp; simp at hp
end
end Go.Vm
end
section
namespace Go.Vm
/-! Natural numbers among the signed ones. -/
theorem w64_nat {x : Nat} (h : x < 9223372036854775808) : w64 (x : Int) = x := w64_of (by omega) (by omega)
theorem xor64_nat {x y : Nat} (hx : x < 9223372036854775808) (hy : y < 9223372036854775808) : xor64 x y = ((x ^^^ y : Nat) : Int) := by
  unfold xor64
  have h1 : (BitVec.ofInt 64 (x : Int) ^^^ BitVec.ofInt 64 (y : Int)).toNat = x ^^^ y := by
    simp only [BitVec.toNat_xor, BitVec.ofInt_natCast, BitVec.toNat_ofNat]
    rw [Nat.mod_eq_of_lt (by omega), Nat.mod_eq_of_lt (by omega)]
  rw [h1]
  exact w64_nat (Nat.xor_lt_two_pow (n := 63) hx hy)
theorem and64_nat {x y : Nat} (hx : x < 9223372036854775808) (hy : y < 9223372036854775808) : and64 x y = ((x &&& y : Nat) : Int) := by
  unfold and64
  have h1 : (BitVec.ofInt 64 (x : Int) &&& BitVec.ofInt 64 (y : Int)).toNat = x &&& y := by
    simp only [BitVec.toNat_and, BitVec.ofInt_natCast, BitVec.toNat_ofNat]
    rw [Nat.mod_eq_of_lt (by omega), Nat.mod_eq_of_lt (by omega)]
  rw [h1]
  exact w64_nat (Nat.and_lt_two_pow (n := 63) x hy)
theorem or64_nat {x y : Nat} (hx : x < 9223372036854775808) (hy : y < 9223372036854775808) : or64 x y = ((x ||| y : Nat) : Int) := by
  unfold or64
  have h1 : (BitVec.ofInt 64 (x : Int) ||| BitVec.ofInt 64 (y : Int)).toNat = x ||| y := by
    simp only [BitVec.toNat_or, BitVec.ofInt_natCast, BitVec.toNat_ofNat]
    rw [Nat.mod_eq_of_lt (by omega), Nat.mod_eq_of_lt (by omega)]
  rw [h1]
  exact w64_nat (Nat.or_lt_two_pow (n := 63) hx hy)
theorem shl64_nat {x n : Nat} (hn : n ≤ 64) (h : x <<< n < 9223372036854775808) : shl64 x n = ((x <<< n : Nat) : Int) := by
  unfold shl64
  rw [Nat.min_eq_left hn]
  have : ((x : Int) * 2 ^ n) = ((x <<< n : Nat) : Int) := by rw [Nat.shiftLeft_eq]; simp
  rw [this]; exact w64_nat h
theorem shr64_nat {x n : Nat} (hn : n ≤ 64) : shr64 x n = ((x >>> n : Nat) : Int) := by
  unfold shr64
  rw [Nat.min_eq_left hn, Nat.shiftRight_eq_div_pow]
  have : (2 ^ n : Int) = ((2 ^ n : Nat) : Int) := by simp
  rw [this, Int.fdiv_eq_ediv_of_nonneg _ (Int.natCast_nonneg _)]
  exact (Int.natCast_ediv x (2 ^ n)).symm
theorem tmod_nat (x y : Nat) : (x : Int).tmod (y : Int) = ((x % y : Nat) : Int) := rfl
theorem tdiv_nat (x y : Nat) : (x : Int).tdiv (y : Int) = ((x / y : Nat) : Int) := rfl
theorem mul64_nat {x y : Nat} (h : x * y < 9223372036854775808) : w64 ((x : Int) * (y : Int)) = ((x * y : Nat) : Int) := by rw [← Int.natCast_mul]; exact w64_nat h
theorem add64_nat {x y : Nat} (h : x + y < 9223372036854775808) : w64 ((x : Int) + (y : Int)) = ((x + y : Nat) : Int) := by rw [← Int.natCast_add]; exact w64_nat h
/-- All numbers below k. -/
def nall (p : Nat → Bool) : Nat → Bool := fun k => Nat.rec true (fun i ih => and (p i) ih) k
theorem nall_get {p : Nat → Bool} : ∀ {k : Nat}, nall p k = true → ∀ i, i < k → p i = true
  | k + 1, h, i, hi => by
    have h' : (p k && nall p k) = true := h
    rw [Bool.and_eq_true] at h'
    by_cases e : i = k
    · subst e; exact h'.1
    · exact nall_get h'.2 i (by omega)
end Go.Vm
end
section
namespace Go.Vm
section
variable {m n : Nat} {s s' : St}
def sgOf (sg : List Nat) (b : Nat) : Nat := sg.getD b 0
theorem lows_get {N : Nat} : ∀ {l : List V} {i : Nat} {v : V}, lows N l → l[i]? = some v → v.low N
  | [], _, _, _, h => by simp at h
  | x :: l, 0, v, hb, h => by
    unfold lows at hb
    simp at h; subst h; exact hb.1
  | x :: l, i + 1, v, hb, h => by
    unfold lows at hb
    exact lows_get hb.2 (by simpa using h)
theorem getH_lt {H : List (Option Blk)} {b : Nat} {B : Blk} (h : getH H b = some B) : b < H.length := by
  unfold getH at h
  exact Nat.lt_of_not_le (fun hb => by rw [List.getElem?_eq_none hb] at h; simp at h)
theorem Weak.rename (σ : Nat → Nat) (hm : m ≤ s'.H.length) (hσm : ∀ b, b < m → σ b = b) (ht : ∀ p ∈ s'.t, p.2.ren σ = s.get p.1 ∧ p.2.low s'.H.length)
    (hH : ∀ b B, getH s'.H b = some B → getH s.H (σ b) = some ⟨B.ro, rens σ B.cs⟩ ∧ lows s'.H.length B.cs)
    (hinj : ∀ b b', b < s'.H.length → b' < s'.H.length → b ≠ b' → σ b ≠ σ b') : Weak m n s s' := fun ρ a w hr hms => by
  refine ⟨fun b => ρ (σ b), ⟨⟨hr.tmps.size, hr.tmps.defers, fun t => ?_⟩, ?_⟩, hm, fun b hb => by show ρ (σ b) = ρ b; rw [hσm b hb], ?_⟩
  · have : ∀ (l : List (Nat × V)), (∀ p ∈ l, p.2.ren σ = s.get p.1 ∧ p.2.low s'.H.length) → VR (fun b => ρ (σ b)) (· < s'.H.length) w (lookS l t) (a.tmps.getD t undef) := by
      intro l
      induction l with
      | nil => intro _; show VR _ _ _ .junk _; unfold VR; trivial
      | cons p l ih =>
        intro h
        simp only [lookS]
        split
        · rename_i e
          have h1 := h p (by simp)
          have h2 := hr.tmps.slot t
          rw [← e, ← h1.1] at h2
          rw [← e]
          exact h2.unren h1.2
        · exact ih fun q hq => h q (by simp [hq])
    exact this s'.t ht
  · refine ⟨fun b B h => getH_lt h, fun b B h => hr.mem.lt _ _ (hH b B h).1, fun b b' B B' h h' hro hne => ?_, fun b B h i v hv => ?_, fun b B h hro i hi => ?_⟩
    · exact hr.mem.inj _ _ _ _ (hH b B h).1 (hH b' B' h').1 hro (hinj b b' (getH_lt h) (getH_lt h') hne)
    · have h1 : (rens σ B.cs)[i]? = some (v.ren σ) := by rw [rens_eq, List.getElem?_map, hv]; rfl
      obtain ⟨r, g1, g2⟩ := hr.mem.cell _ _ (hH b B h).1 i _ h1
      exact ⟨r, g1, g2.unren (lows_get (hH b B h).2 hv)⟩
    · exact hr.mem.free _ _ (hH b B h).1 hro i (by show i < (rens σ B.cs).length; rw [rens_eq, List.length_map]; exact hi)
  · exact (Frame.refl ρ (getH s.H) w).less fun b B hB hro => ⟨σ b, _, (hH b B hB).1, hro, rfl⟩
def slotsOk (σ : Nat → Nat) (N : Nat) (s : St) : List (Nat × V) → Prop
  | [] => True
  | p :: l => (p.2.ren σ = s.get p.1 ∧ p.2.low N) ∧ slotsOk σ N s l
def blksOk (σ : Nat → Nat) (N : Nat) (s : St) : List (Option Blk) → Nat → Prop
  | [], _ => True
  | none :: l, i => blksOk σ N s l (i + 1)
  | some B :: l, i => (getH s.H (σ i) = some ⟨B.ro, rens σ B.cs⟩ ∧ lows N B.cs) ∧ blksOk σ N s l (i + 1)
theorem slotsOk_all {σ : Nat → Nat} {N : Nat} : ∀ {l : List (Nat × V)}, slotsOk σ N s l → ∀ p ∈ l, p.2.ren σ = s.get p.1 ∧ p.2.low N
  | [], _, p, hp => by cases hp
  | q :: l, h, p, hp => by
    rcases List.mem_cons.1 hp with e | hp
    · subst e; exact h.1
    · exact slotsOk_all h.2 p hp
theorem blksOk_all {σ : Nat → Nat} {N : Nat} : ∀ {l : List (Option Blk)} {i : Nat}, blksOk σ N s l i → ∀ b B, getH l b = some B → getH s.H (σ (i + b)) = some ⟨B.ro, rens σ B.cs⟩ ∧ lows N B.cs
  | [], _, _, b, B, h => by simp [getH] at h
  | none :: l, i, hk, b, B, h => by
    cases b with
    | zero => simp [getH] at h
    | succ b => have := blksOk_all (l := l) hk b B (by simpa [getH] using h); rw [show i + (b + 1) = i + 1 + b by omega]; exact this
  | some C :: l, i, hk, b, B, h => by
    cases b with
    | zero => simp [getH] at h; subst h; exact hk.1
    | succ b => have := blksOk_all (l := l) hk.2 b B (by simpa [getH] using h); rw [show i + (b + 1) = i + 1 + b by omega]; exact this
/-- The new numbers as a list: the old number of each. -/
theorem Weak.ren (sg : List Nat) (hl : sg.length = s'.H.length) (hm : m ≤ sg.length) (hp : sg.take m = List.range m) (hnd : sg.Nodup)
    (ht : slotsOk (sgOf sg) s'.H.length s s'.t) (hH : blksOk (sgOf sg) s'.H.length s s'.H 0) : Weak m n s s' :=
  Weak.rename (sgOf sg) (by omega) (fun b hb => by
      unfold sgOf
      have h1 : (sg.take m)[b]? = some b := by rw [hp, List.getElem?_range hb]
      rw [List.getElem?_take_of_lt hb] at h1
      rw [List.getD_eq_getElem?_getD, h1]; rfl)
    (slotsOk_all ht) (fun b B h => by have := blksOk_all hH b B h; rw [Nat.zero_add] at this; exact this)
    (fun b b' hb hb' hne e => by
      unfold sgOf at e
      rw [List.getD_eq_getElem?_getD, List.getD_eq_getElem?_getD, List.getElem?_eq_getElem (by omega), List.getElem?_eq_getElem (by omega)] at e
      exact hne ((List.getElem_inj hnd).1 (by simpa using e)))
theorem again_ren {I : Nat → St → Prop} {k : Nat} (k' : Nat) (s'' : St) (sg : List Nat) (hk : k' < k) (hl : sg.length = s''.H.length) (hm : m ≤ sg.length) (hp : sg.take m = List.range m) (hnd : sg.Nodup)
    (ht : slotsOk (sgOf sg) s''.H.length s s''.t) (hH : blksOk (sgOf sg) s''.H.length s s''.H 0) (hi : I k' s'') : again m n I k s := ⟨k', s'', hk, Weak.ren sg hl hm hp hnd ht hH, hi⟩
theorem start_ren {I : Nat → St → Prop} (k : Nat) (s0 : St) (sg : List Nat) (hl : sg.length = s0.H.length) (hm : m ≤ sg.length) (hp : sg.take m = List.range m) (hnd : sg.Nodup)
    (ht : slotsOk (sgOf sg) s0.H.length s s0.t) (hH : blksOk (sgOf sg) s0.H.length s s0.H 0) (hi : I k s0) : ∃ k s0, Weak m n s s0 ∧ I k s0 := ⟨k, s0, Weak.ren sg hl hm hp hnd ht hH, hi⟩
end
end Go.Vm
end
section
namespace Go.Vm
section
variable {P : Program} {m n : Nat} {R : Exit → St → Prop} {k : List Fr} {s : St} {c : Code}
/-- At most so many rounds. -/
def unr (P : Program) (m n : Nat) (R : Exit → St → Prop) (c : Code) (k : List Fr) : Nat → St → Prop
  | 0, _ => False
  | K + 1, s => go P m n (seqQ (unr P m n R c k K) (kQ P m n R k)) c [] s
theorem unr_step (K : Nat) (h : (0 < K) = True) : unr P m n R c k K s = go P m n (seqQ (unr P m n R c k (K - 1)) (kQ P m n R k)) c [] s := by
  cases K with
  | zero => simp at h
  | succ K => rfl
theorem go_unroll (K : Nat) (h : unr P m n R c k K s) : go P m n R (.loop c) k s := by
  refine go_loop (fun j s => unr P m n R c k j s) ⟨K, s, Weak.refl _ _ _, h⟩ (fun j s hj _ => ?_)
  cases j with
  | zero => exact hj.elim
  | succ j =>
    refine vc_mono c _ _ s (fun e s' he => ?_) hj
    cases e
    case normal => exact ⟨j, s', Nat.lt_succ_self j, Weak.refl _ _ _, he⟩
    all_goals exact he
theorem vres_cell (P : Program) (s : St) (x t : Nat) (r : List ResultVar) (K : List V → Prop) : vresults P s (.cell x t :: r) K = vthen (vop P (.load t (.tmp x)) s.ev (getH s.H) s.H.length) (fun res => vresults P s r fun l => K (res.v :: l)) := rfl
attribute [go_sem] unr_step vres_cell vthen_some
end
end Go.Vm
end
section
namespace Go.Vm
/-! More rewriting rules for the simplifier. -/
attribute [go_sem] vfill vrep V.cells V.solid V.nat? vlow vhigh vsrc isStr eszOk srcT vappend vbuiltin vconv vaggEq tyOk V.beq1 V.low lows
theorem vone_u8 (x : BitVec 8) : V.one (.u8 x) = true := rfl
theorem vone_u32 (x : BitVec 32) : V.one (.u32 x) = true := rfl
theorem vone_u64 (x : BitVec 64) : V.one (.u64 x) = true := rfl
theorem vone_i64 (x : Int) : V.one (.i64 x) = true := rfl
theorem vone_i32 (x : Int) : V.one (.i32 x) = true := rfl
theorem vone_bool (x : Bool) : V.one (.bool x) = true := rfl
theorem vone_str (x : List Byte) : V.one (.str x) = true := rfl
theorem vone_ptr (b o : Nat) : V.one (.ptr b o) = true := rfl
theorem vone_slice (b o l e : Nat) : V.one (.slice b o l e) = true := rfl
theorem vone_fn (f : FuncId) (a c : List V) : V.one (.fn f a c) = true := rfl
theorem vone_iface (t : TypeId) (v : V) : V.one (.iface t v) = true := rfl
theorem vone_nilPtr : V.one .nilPtr = true := rfl
theorem vone_nilSlice : V.one .nilSlice = true := rfl
theorem vone_nilFn : V.one .nilFn = true := rfl
theorem vone_nilIface : V.one .nilIface = true := rfl
theorem splice_one (cs : List V) (o : Nat) (x : V) : splice cs o [x] = cs.set o x := rfl
theorem splice_nil (cs : List V) (o : Nat) : splice cs o [] = cs.take o ++ [] ++ cs.drop (o + 0) := rfl
theorem splice_two (cs : List V) (o : Nat) (x y : V) (l : List V) : splice cs o (x :: y :: l) = cs.take o ++ (x :: y :: l) ++ cs.drop (o + (x :: y :: l).length) := rfl
theorem splice_all (cs xs : List V) (h : xs.length = cs.length) : splice cs 0 xs = xs := by
  match xs, cs, h with
  | [], [], _ => rfl
  | [x], [c], _ => rfl
  | x :: y :: l, cs, h =>
    rw [splice_two, Nat.zero_add, List.drop_of_length_le (by omega)]; simp
attribute [go_sem] vone_u8 vone_u32 vone_u64 vone_i64 vone_i32 vone_bool vone_str vone_ptr vone_slice vone_fn vone_iface vone_nilPtr vone_nilSlice vone_nilFn vone_nilIface splice_one splice_nil splice_two
theorem getH_nil (b : Nat) : getH [] b = none := rfl
theorem getH_zero (x : Option Blk) (l : List (Option Blk)) : getH (x :: l) 0 = x := rfl
theorem getH_succ (x : Option Blk) (l : List (Option Blk)) (b : Nat) : getH (x :: l) (b + 1) = getH l b := rfl
theorem setOlds_cons (H : List (Option Blk)) (b : Nat) (x : Option Blk) (l : List (Nat × Option Blk)) : setOlds H ((b, x) :: l) = (setOlds H l).set b x := rfl
theorem bytesOf_nil : bytesOf { data := #[] } = [] := rfl
theorem bytesOf_mk (l : List UInt8) : bytesOf { data := l.toArray } = l.map UInt8.toBitVec := rfl
attribute [go_sem] bytesOf_nil foot List.range'_zero List.range'_one
attribute [go_sem] getH_nil getH_zero getH_succ setOlds_cons
theorem lows_ite (n : Nat) (c : Prop) [Decidable c] (a b : List V) : lows n (if c then a else b) = if c then lows n a else lows n b := apply_ite _ _ _ _
theorem low_ite (n : Nat) (c : Prop) [Decidable c] (a b : V) : (if c then a else b).low n = if c then a.low n else b.low n := apply_ite (V.low n) _ _ _
theorem evs_ite (c : Prop) [Decidable c] (a b : List V) (i : Nat) : (if c then a else b)[i]? = if c then a[i]? else b[i]? := apply_ite (fun l : List V => l[i]?) _ _ _
/-! Rows of bytes. -/
theorem getD_u8 {s : List (BitVec 8)} {i : Nat} (h : i < s.length) : (s.map V.u8).getD i .junk = .u8 (s.getD i 0) := by
  rw [List.getD_eq_getElem?_getD, List.getD_eq_getElem?_getD, List.getElem?_map, List.getElem?_eq_getElem h]; rfl
theorem set_u8 (s : List (BitVec 8)) (i : Nat) (x : BitVec 8) : (s.map V.u8).set i (.u8 x) = (s.set i x).map V.u8 := List.map_set.symm
theorem take_u8 (s : List (BitVec 8)) (i : Nat) : (s.map V.u8).take i = (s.take i).map V.u8 := List.map_take.symm
theorem drop_u8 (s : List (BitVec 8)) (i : Nat) : (s.map V.u8).drop i = (s.drop i).map V.u8 := List.map_drop.symm
theorem append_u8 (s t : List (BitVec 8)) : s.map V.u8 ++ t.map V.u8 = (s ++ t).map V.u8 := List.map_append.symm
theorem bytes_u8 (s : List (BitVec 8)) : (s.map V.u8).map V.byte = s := by
  rw [List.map_map]
  have : V.byte ∘ V.u8 = id := rfl
  rw [this, List.map_id]
theorem all_u8 (s : List (BitVec 8)) : (∀ v ∈ s.map V.u8, ∃ x, v = .u8 x) = True := by
  simp only [List.mem_map]
  exact propext ⟨fun _ => trivial, fun _ v ⟨x, _, e⟩ => ⟨x, e.symm⟩⟩
theorem one_u8 (s : List (BitVec 8)) : (∀ v ∈ s.map V.u8, v.one = true) = True := by
  refine propext ⟨fun _ => trivial, fun _ v hv => ?_⟩
  obtain ⟨x, _, rfl⟩ := List.mem_map.1 hv
  rfl
attribute [go_sem] set_u8 take_u8 drop_u8 append_u8 bytes_u8 all_u8 one_u8 V.byte List.length_map
end Go.Vm
end
section
namespace Go.Vm
theorem snoc_ind {α : Type} {p : List α → Prop} (h0 : p []) (h1 : ∀ l a, p l → p (l ++ [a])) (l : List α) : p l := by
  have : ∀ l : List α, p l.reverse := by
    intro l
    induction l with
    | nil => exact h0
    | cons a l ih => rw [List.reverse_cons]; exact h1 _ _ ih
  have h := this l.reverse
  rwa [List.reverse_reverse] at h
theorem pow256 (k : Nat) : 256 ^ (k + 1) = 256 * 256 ^ k := by rw [Nat.pow_succ, Nat.mul_comm]
/-- The number of bytes, the highest first. -/
def be (s : List (BitVec 8)) : Nat := s.foldl (fun n b => 256 * n + b.toNat) 0
/-- The number of bytes, the lowest first. -/
def le : List (BitVec 8) → Nat
  | [] => 0
  | b :: l => b.toNat + 256 * le l
def beB (n : Nat) : Nat → List (BitVec 8)
  | 0 => []
  | k + 1 => beB (n / 256) k ++ [BitVec.ofNat 8 n]
def leB (n : Nat) : Nat → List (BitVec 8)
  | 0 => []
  | k + 1 => BitVec.ofNat 8 n :: leB (n / 256) k
theorem be_snoc (s : List (BitVec 8)) (b : BitVec 8) : be (s ++ [b]) = 256 * be s + b.toNat := by unfold be; rw [List.foldl_append]; rfl
theorem be_nil : be [] = 0 := rfl
theorem be_lt (s : List (BitVec 8)) : be s < 256 ^ s.length := by
  induction s using snoc_ind with
  | h0 => exact Nat.one_pos
  | h1 s b ih =>
    rw [be_snoc, List.length_append, List.length_singleton, pow256]
    have := b.isLt
    omega
theorem le_lt (s : List (BitVec 8)) : le s < 256 ^ s.length := by
  induction s with
  | nil => exact Nat.one_pos
  | cons b s ih =>
    rw [le, List.length_cons, pow256]
    have := b.isLt
    omega
theorem le_reverse (s : List (BitVec 8)) : le s.reverse = be s := by
  induction s using snoc_ind with
  | h0 => rfl
  | h1 s b ih => rw [List.reverse_append, List.reverse_singleton, List.singleton_append, le, be_snoc, ih]; omega
theorem beB_length (n k : Nat) : (beB n k).length = k := by
  induction k generalizing n with
  | zero => rfl
  | succ k ih => rw [beB, List.length_append, ih]; rfl
theorem leB_length (n k : Nat) : (leB n k).length = k := by
  induction k generalizing n with
  | zero => rfl
  | succ k ih => rw [leB, List.length_cons, ih]
theorem be_beB (n k : Nat) : be (beB n k) = n % 256 ^ k := by
  induction k generalizing n with
  | zero => simp [beB, be_nil, Nat.mod_one]
  | succ k ih =>
    rw [beB, be_snoc, ih, BitVec.toNat_ofNat, pow256, Nat.mod_mul]
    show 256 * _ + n % 256 = _
    omega
theorem le_leB (n k : Nat) : le (leB n k) = n % 256 ^ k := by
  induction k generalizing n with
  | zero => simp [leB, le, Nat.mod_one]
  | succ k ih =>
    rw [leB, le, ih, BitVec.toNat_ofNat, pow256, Nat.mod_mul]
theorem ofNat_snoc (m : Nat) (b : BitVec 8) : BitVec.ofNat 8 (256 * m + b.toNat) = b := by
  apply BitVec.eq_of_toNat_eq
  have := b.isLt
  rw [BitVec.toNat_ofNat]
  show (256 * m + b.toNat) % 256 = _
  omega
theorem beB_be (s : List (BitVec 8)) : beB (be s) s.length = s := by
  induction s using snoc_ind with
  | h0 => rfl
  | h1 s b ih =>
    have hb := b.isLt
    rw [List.length_append, List.length_singleton, beB, be_snoc, ofNat_snoc, show (256 * be s + b.toNat) / 256 = be s by omega, ih]
theorem leB_le (s : List (BitVec 8)) : leB (le s) s.length = s := by
  induction s with
  | nil => rfl
  | cons b s ih =>
    have hb := b.isLt
    rw [List.length_cons, leB, le, show (b.toNat + 256 * le s) / 256 = le s by omega, ih, show b.toNat + 256 * le s = 256 * le s + b.toNat by omega, ofNat_snoc]
theorem beB_mod (n k : Nat) : beB (n % 256 ^ k) k = beB n k := by
  have h := beB_be (beB n k)
  rw [be_beB, beB_length] at h; exact h
theorem leB_mod (n k : Nat) : leB (n % 256 ^ k) k = leB n k := by
  have h := leB_le (leB n k)
  rw [le_leB, leB_length] at h; exact h
theorem be_inj {s t : List (BitVec 8)} (hl : s.length = t.length) (h : be s = be t) : s = t := by
  rw [← beB_be s, ← beB_be t, hl, h]
theorem getD_take {s : List (BitVec 8)} {k i : Nat} (h : i < k) : (s.take k).getD i 0 = s.getD i 0 := by
  rw [List.getD_eq_getElem?_getD, List.getD_eq_getElem?_getD, List.getElem?_take_of_lt h]
theorem take_snoc {s : List (BitVec 8)} {i : Nat} (h : i < s.length) : s.take (i + 1) = s.take i ++ [s.getD i 0] := by
  rw [List.take_succ_eq_append_getElem h, List.getD_eq_getElem?_getD, List.getElem?_eq_getElem h]; rfl
theorem drop_cons' {s : List (BitVec 8)} {i : Nat} (h : i < s.length) : s.drop i = s.getD i 0 :: s.drop (i + 1) := by
  rw [List.drop_eq_getElem_cons h, List.getD_eq_getElem?_getD, List.getElem?_eq_getElem h]; rfl
theorem slice1 {s : List (BitVec 8)} {i : Nat} (h : i < s.length) : (s.take (i + 1)).drop i = [s.getD i 0] := by
  rw [take_snoc h, List.drop_left' (by simp; omega)]
/-- A byte behind a number. -/
theorem shl8_or {n : Nat} (h : n < 72057594037927936) (b : BitVec 8) : BitVec.ofNat 64 n <<< 8 ||| b.setWidth 64 = BitVec.ofNat 64 (256 * n + b.toNat) := by
  apply BitVec.eq_of_toNat_eq
  have hb := b.isLt
  rw [BitVec.toNat_or, BitVec.toNat_shiftLeft, BitVec.toNat_ofNat, BitVec.toNat_setWidth, BitVec.toNat_ofNat, Nat.mod_eq_of_lt (by omega : n < 2 ^ 64), Nat.mod_eq_of_lt (by omega : b.toNat < 2 ^ 64), Nat.mod_eq_of_lt (by omega : 256 * n + b.toNat < 2 ^ 64),
    Nat.mod_eq_of_lt (by rw [Nat.shiftLeft_eq]; omega), ← Nat.shiftLeft_add_eq_or_of_lt (by omega : b.toNat < 2 ^ 8), Nat.shiftLeft_eq]
  omega
end Go.Vm
end
section
namespace Go.Vm
def Blk.ren (σ : Nat → Nat) (B : Blk) : Blk := ⟨B.ro, rens σ B.cs⟩
def renO (σ : Nat → Nat) (x : Option Blk) : Option Blk := x.map (Blk.ren σ)
def oldsOf (σ : Nat → Nat) : List Nat → List (Option Blk) → List (Nat × Option Blk)
  | i :: sg, x :: h => (i, renO σ x) :: oldsOf σ sg h
  | _, _ => []
def newsOf (σ : Nat → Nat) : List Nat → List (Option Blk) → List (Option Blk)
  | [], h => h.map (renO σ)
  | _ :: sg, _ :: h => newsOf σ sg h
  | _ :: _, [] => []
theorem newsOf_eq (σ : Nat → Nat) : ∀ (sg : List Nat) (h : List (Option Blk)), newsOf σ sg h = (h.drop sg.length).map (renO σ)
  | [], h => rfl
  | _ :: sg, x :: h => by rw [newsOf, newsOf_eq σ sg h]; rfl
  | _ :: _, [] => rfl
theorem lookOld_out {σ : Nat → Nat} {b : Nat} {d : Option Blk} : ∀ {sg : List Nat} {h : List (Option Blk)}, b ∉ sg → lookOld (oldsOf σ sg h) b d = d
  | [], _, _ => by unfold oldsOf; rfl
  | _ :: _, [], _ => by unfold oldsOf; rfl
  | i :: sg, x :: h, hb => by
    unfold oldsOf lookOld
    rw [if_neg (fun e => hb (by simp [e]))]
    exact lookOld_out (fun h' => hb (List.mem_cons_of_mem _ h'))
theorem lookOld_in {σ : Nat → Nat} {d : Option Blk} : ∀ {sg : List Nat} {h : List (Option Blk)} {i b : Nat}, sg.Nodup → sg[i]? = some b → i < h.length → lookOld (oldsOf σ sg h) b d = renO σ (h[i]?).join
  | [], _, _, _, _, hi, _ => by simp at hi
  | _ :: _, [], _, _, _, _, hl => by simp at hl
  | j :: sg, x :: h, 0, b, hnd, hi, hl => by
    simp at hi
    subst hi
    unfold oldsOf lookOld
    rw [if_pos rfl]; simp
  | j :: sg, x :: h, i + 1, b, hnd, hi, hl => by
    have hi' : sg[i]? = some b := by simpa using hi
    have hne : b ≠ j := fun e => by
      subst e
      exact (List.nodup_cons.1 hnd).1 (List.mem_of_getElem? hi')
    unfold oldsOf lookOld
    rw [if_neg hne, lookOld_in (List.nodup_cons.1 hnd).2 hi' (by simpa using hl)]
    simp
section
variable {P : Program} {f : FuncId} {args : List V} {h h' : List (Option Blk)} {v : V} {sg : List Nat} {get0 : Nat → Option Blk} {nid : Nat}
theorem sgOf_get {b : Nat} (hb : b < sg.length) : sg[b]? = some (sgOf sg b) := by
  unfold sgOf
  rw [List.getD_eq_getElem?_getD, List.getElem?_eq_getElem hb]; rfl
theorem sgOf_app_lt {l : List Nat} {b : Nat} (hb : b < sg.length) : sgOf (sg ++ l) b = sgOf sg b := by
  unfold sgOf
  rw [List.getD_eq_getElem?_getD, List.getD_eq_getElem?_getD, List.getElem?_append_left hb]
theorem sgOf_app_ge {k b : Nat} (hb : sg.length ≤ b) (hk : b < sg.length + k) : sgOf (sg ++ List.range' nid k) b = nid + (b - sg.length) := by
  unfold sgOf
  rw [List.getD_eq_getElem?_getD, List.getElem?_append_right hb, List.getElem?_range' (by omega)]; simp
theorem getH_some {H : List (Option Blk)} {b : Nat} {B : Blk} (e : getH H b = some B) : H[b]? = some (some B) := by
  have hl := getH_lt e
  unfold getH at e
  rw [List.getElem?_eq_getElem hl] at e ⊢
  simp at e
  rw [e]
/-- The small memory's numbers and the new ones, as the caller has them. -/
def sgNew (sg : List Nat) (nid : Nat) (h' : List (Option Blk)) : List Nat := sg ++ List.range' nid (h'.length - sg.length)
theorem spec_of_spec0 (hs : Spec0 P f args h v h') (hlen : sg.length = h.length) (hlow : lows h.length args) (hnd : sg.Nodup) (hsg : ∀ b ∈ sg, b < nid)
    (hall : ∀ b, b < h.length → ∃ B, getH h b = some B)
    (hblk : ∀ b B, getH h b = some B → get0 (sgOf sg b) = some ⟨B.ro, rens (sgOf sg) B.cs⟩ ∧ lows h.length B.cs)
    (hro : ∀ b B, getH h' b = some B → h.length ≤ b → B.ro = false) (hle : h.length ≤ h'.length) :
    Spec P f (rens (sgOf sg) args) get0 nid { v := v.ren (sgOf (sgNew sg nid h')), pre := True, fp := sg, old := oldsOf (sgOf (sgNew sg nid h')) sg h', news := newsOf (sgOf (sgNew sg nid h')) sg h' } := by
  intro ρ dom get w rargs hm hr hfp hdom
  have hnl : (newsOf (sgOf (sgNew sg nid h')) sg h').length = h'.length - h.length := by rw [newsOf_eq, List.length_map, List.length_drop, hlen]
  simp only [hnl] at hdom ⊢
  -- the caller's blocks
  have hgot : ∀ b B, getH h b = some B → get (sgOf sg b) = some ⟨B.ro, rens (sgOf sg) B.cs⟩ := fun b B e => by
    rw [hfp _ (List.mem_of_getElem? (sgOf_get (by rw [hlen]; exact getH_lt e)))]
    exact (hblk b B e).1
  have hinj : ∀ b b', b < h.length → b' < h.length → b ≠ b' → sgOf sg b ≠ sgOf sg b' := fun b b' hb hb' hne e => by
    have e1 := sgOf_get (sg := sg) (b := b) (by omega)
    have e2 := sgOf_get (sg := sg) (b := b') (by omega)
    rw [e] at e1
    rw [List.getElem?_eq_getElem (by omega)] at e1 e2
    exact hne ((List.getElem_inj hnd).1 (by rw [Option.some.inj e1, Option.some.inj e2]))
  have hm0 : MemRel (fun b => ρ (sgOf sg b)) (· < h.length) (getH h) w := by
    refine ⟨fun b B e => getH_lt e, fun b B e => hm.lt _ _ (hgot b B e), fun b b' B B' e e' hr' hne => hm.inj _ _ _ _ (hgot b B e) (hgot b' B' e') hr' (hinj b b' (getH_lt e) (getH_lt e') hne), fun b B e i v hv => ?_, fun b B e hr' i hi => ?_⟩
    · have h1 : (rens (sgOf sg) B.cs)[i]? = some (v.ren (sgOf sg)) := by rw [rens_eq, List.getElem?_map, hv]; rfl
      obtain ⟨r, g1, g2⟩ := hm.cell _ _ (hgot b B e) i _ h1
      exact ⟨r, g1, g2.unren (lows_get (hblk b B e).2 hv)⟩
    · exact hm.free _ _ (hgot b B e) hr' i (by show i < (rens (sgOf sg) B.cs).length; rw [rens_eq, List.length_map]; exact hi)
  refine (hs _ w rargs (hr.unren hlow) hm0).mono ?_
  rintro e w' ⟨r, ρ', rfl, k1, k2, k3, k4, k5⟩
  -- the new relation
  have hnew : ∀ b, nid ≤ b → b < nid + (h'.length - h.length) → ¬ dom b := hdom
  have hdsg : ∀ b, b < h.length → dom (sgOf sg b) := fun b hb => by
    obtain ⟨B, e⟩ := hall b hb
    exact hm.has _ _ (hgot b B e)
  have hsgn : ∀ b, b < h.length → sgOf sg b < nid := fun b hb => hsg _ (List.mem_of_getElem? (sgOf_get (by omega)))
  let ρ1 : Nat → Nat × Nat := fun b => if nid ≤ b ∧ b < nid + (h'.length - h.length) then ρ' (h.length + (b - nid)) else ρ b
  have hρ1 : ∀ b, b < h'.length → ρ1 (sgOf (sgNew sg nid h') b) = ρ' b := fun b hb => by
    by_cases hb2 : b < h.length
    · rw [sgNew, sgOf_app_lt (by omega)]
      show (if _ then _ else _) = _
      rw [if_neg (by have := hsgn b hb2; omega), k4 b hb2]
    · rw [sgNew, sgOf_app_ge (by omega) (by omega)]
      show (if _ then _ else _) = _
      rw [if_pos (by omega)]
      congr 1; omega
  have hd1 : ∀ b, b < h'.length → domWith dom nid (h'.length - h.length) (sgOf (sgNew sg nid h') b) := fun b hb => by
    by_cases hb2 : b < h.length
    · rw [sgNew, sgOf_app_lt (by omega)]; exact .inl (hdsg b hb2)
    · rw [sgNew, sgOf_app_ge (by omega) (by omega)]; exact .inr ⟨by omega, by omega⟩
  -- what lies where
  have cases1 : ∀ b B, upd get (oldsOf (sgOf (sgNew sg nid h')) sg h') nid (newsOf (sgOf (sgNew sg nid h')) sg h') b = some B →
      (∃ c C, getH h' c = some C ∧ B = C.ren (sgOf (sgNew sg nid h')) ∧ b = sgOf (sgNew sg nid h') c ∧ c < h'.length) ∨ (get b = some B ∧ b ∉ sg ∧ ¬ (nid ≤ b ∧ b < nid + (h'.length - h.length))) := fun b B e => by
    unfold upd at e
    rw [hnl] at e
    by_cases hb : nid ≤ b ∧ b < nid + (h'.length - h.length)
    · rw [if_pos hb, newsOf_eq, List.getElem?_map, List.getElem?_drop, hlen] at e
      left
      have hl : h.length + (b - nid) < h'.length := by omega
      rw [List.getElem?_eq_getElem hl] at e
      simp only [Option.map_some, Option.join_some] at e
      obtain ⟨C, e1, e2⟩ : ∃ C, h'[h.length + (b - nid)] = some C ∧ B = C.ren (sgOf (sgNew sg nid h')) := by
        unfold renO at e
        cases hx : h'[h.length + (b - nid)] with
        | none => rw [hx] at e; simp at e
        | some C => rw [hx] at e; simp at e; exact ⟨C, rfl, e.symm⟩
      refine ⟨h.length + (b - nid), C, ?_, e2, ?_, hl⟩
      · unfold getH; rw [List.getElem?_eq_getElem hl, e1]; rfl
      · rw [sgNew, sgOf_app_ge (by omega) (by omega)]; omega
    · rw [if_neg hb] at e
      by_cases hin : b ∈ sg
      · obtain ⟨i, hi, hib⟩ := List.mem_iff_getElem.1 hin
        left
        have hi' : sg[i]? = some b := by rw [List.getElem?_eq_getElem hi, hib]
        rw [lookOld_in hnd hi' (by omega)] at e
        have hsb : sgOf sg i = b := by have := sgOf_get (sg := sg) hi; rw [hi'] at this; exact (Option.some.inj this).symm
        obtain ⟨C, e1, e2⟩ : ∃ C, getH h' i = some C ∧ B = C.ren (sgOf (sgNew sg nid h')) := by
          unfold renO at e
          cases hx : (h'[i]?).join with
          | none => rw [hx] at e; simp at e
          | some C => rw [hx] at e; simp at e; exact ⟨C, hx, e.symm⟩
        exact ⟨i, C, e1, e2, by rw [sgNew, sgOf_app_lt hi, hsb], by omega⟩
      · rw [lookOld_out hin] at e
        exact .inr ⟨e, hin, hb⟩
  have away : ∀ b B, get b = some B → b ∉ sg → ∀ b0 B0, getH h b0 = some B0 → B0.ro = false → (ρ (sgOf sg b0)).1 ≠ (ρ b).1 := fun b B e hb b0 B0 e0 hr0 => by
    refine hm.inj _ _ _ _ (hgot b0 B0 e0) e hr0 (fun e1 => hb ?_)
    rw [← e1]; exact List.mem_of_getElem? (sgOf_get (by rw [hlen]; exact getH_lt e0))
  have still : ∀ b B, get b = some B → b ∉ sg → w'.heap[(ρ b).1]? = w.heap[(ρ b).1]? := fun b B e hb => k5.keep _ (hm.lt b B e) fun b0 B0 e0 hr0 => away b B e hb b0 B0 e0 hr0
  have hρout : ∀ b, ¬ (nid ≤ b ∧ b < nid + (h'.length - h.length)) → ρ1 b = ρ b := fun b hb => if_neg hb
  have hρdom : ∀ b, dom b → ρ1 b = ρ b := fun b hb => hρout b fun h => hnew b h.1 h.2 hb
  refine ⟨r, ρ1, rfl, hρdom, ?_, k1.doren hd1 hρ1, ?_⟩
  · refine ⟨fun b B e => ?_, fun b B e => ?_, fun b b' B B' e e' hr' hne => ?_, fun b B e i v hv => ?_, fun b B e hr' i hi => ?_⟩
    · rcases cases1 b B e with ⟨c, C, e1, rfl, rfl, hc⟩ | ⟨e1, _, _⟩
      · exact hd1 c hc
      · exact .inl (hm.has _ _ e1)
    · rcases cases1 b B e with ⟨c, C, e1, rfl, rfl, hc⟩ | ⟨e1, _, hb⟩
      · rw [hρ1 c hc]; exact k2.lt _ _ e1
      · rw [hρout b hb]; exact Nat.lt_of_lt_of_le (hm.lt _ _ e1) k5.size
    · rcases cases1 b B e with ⟨c, C, e1, rfl, rfl, hc⟩ | ⟨e1, hb1, hb⟩ <;> rcases cases1 b' B' e' with ⟨c', C', e1', rfl, rfl, hc'⟩ | ⟨e1', hb1', hb'⟩
      · rw [hρ1 c hc, hρ1 c' hc']
        exact k2.inj _ _ _ _ e1 e1' hr' (fun e2 => hne (by rw [e2]))
      · rw [hρ1 c hc, hρout b' hb']
        rcases k5.own c C e1 hr' with ⟨b0, B0, e0, hr0, hx⟩ | hx
        · rw [← hx]; exact away b' B' e1' hb1' b0 B0 e0 hr0
        · have := hm.lt _ _ e1'; omega
      · rw [hρout b hb, hρ1 c' hc']
        by_cases hc2 : c' < h.length
        · rw [k4 c' hc2]
          obtain ⟨B0, e0⟩ := hall c' hc2
          refine hm.inj _ _ _ _ e1 (hgot c' B0 e0) hr' (fun e2 => hb1 ?_)
          rw [e2]; exact List.mem_of_getElem? (sgOf_get (by omega))
        · have hcro := hro c' C' e1' (by omega)
          rcases k5.own c' C' e1' hcro with ⟨b0, B0, e0, hr0, hx⟩ | hx
          · rw [← hx]; exact fun e2 => away b B e1 hb1 b0 B0 e0 hr0 e2.symm
          · have := hm.lt _ _ e1; omega
      · rw [hρout b hb, hρout b' hb']
        exact hm.inj _ _ _ _ e1 e1' hr' hne
    · rcases cases1 b B e with ⟨c, C, e1, rfl, rfl, hc⟩ | ⟨e1, hb1, hb⟩
      · rw [hρ1 c hc]
        have h2 : ∃ u, C.cs[i]? = some u ∧ v = u.ren (sgOf (sgNew sg nid h')) := by
          have hv' : (rens (sgOf (sgNew sg nid h')) C.cs)[i]? = some v := hv
          rw [rens_eq, List.getElem?_map] at hv'
          cases hu : C.cs[i]? with
          | none => rw [hu] at hv'; simp at hv'
          | some u => rw [hu] at hv'; simp at hv'; exact ⟨u, rfl, hv'.symm⟩
        obtain ⟨u, hu, rfl⟩ := h2
        obtain ⟨r, g1, g2⟩ := k2.cell _ _ e1 i u hu
        exact ⟨r, g1, g2.doren hd1 hρ1⟩
      · rw [hρout b hb]
        obtain ⟨r, g1, g2⟩ := hm.cell _ _ e1 i v hv
        refine ⟨r, ?_, g2.mono hρdom (fun b hb => .inl hb) k5.lasts⟩
        rw [World.cell?_of_block (w := w) (a := ⟨(ρ b).1, (ρ b).2 + i, none⟩) (still b B e1 hb1)]; exact g1
    · rcases cases1 b B e with ⟨c, C, e1, rfl, rfl, hc⟩ | ⟨e1, hb1, hb⟩
      · rw [hρ1 c hc]
        exact k2.free _ _ e1 hr' i (by have h3 : i < (rens (sgOf (sgNew sg nid h')) C.cs).length := hi; rw [rens_eq, List.length_map] at h3; exact h3)
      · rw [hρout b hb, World.frozen?_of_block (w := w) (a := ⟨(ρ b).1, (ρ b).2 + i, none⟩) (still b B e1 hb1)]
        exact hm.free _ _ e1 hr' i hi
  · refine ⟨k5.os, k5.output, k5.tape, k5.size, fun r hr hb => k5.keep r hr fun b B e hro' => ?_, k5.lasts, fun b B e hro' => ?_⟩
    · exact hb _ _ (hgot b B e) hro'
    · rcases cases1 b B e with ⟨c, C, e1, rfl, rfl, hc⟩ | ⟨e1, hb1, hb⟩
      · rw [hρ1 c hc]
        rcases k5.own c C e1 hro' with ⟨b0, B0, e0, hr0, hx⟩ | hx
        · exact .inl ⟨_, _, hgot b0 B0 e0, hr0, hx⟩
        · exact .inr hx
      · exact .inl ⟨b, B, e1, hro', by rw [hρout b hb]⟩
end
end Go.Vm
end
