/- A part of the proof: laws of a small machine of values, or what one function answers, proved against the model; no conditions beyond those in each theorem. -/
import Derived.ProofKit
import Derived.OpenShut
import Derived.SizedLaws
import Derived.Deep.CondSized
import Derived.Test.YtamiehjmabphmaaVmP3ToVmQ
import Derived.Test.YtamiehjmabphmaaVmXToVmP2
set_option linter.unusedVariables false
set_option linter.unusedSimpArgs false
set_option linter.unusedSectionVars false
section
namespace Go.Vm
open Go.ChangeShapes Go.WideShapes Go.ChangeAt Go.RowKit

/-- The kinds of plain arguments. -/
inductive AK where
  | u8 | u32 | u64 | i64 | i32 | bool | str
def AK.fits (P : Program) (t : TypeId) : AK → Prop
  | .u8 => P.underlying t = some (.int .u8)
  | .u32 => P.underlying t = some (.int .u32)
  | .u64 => P.underlying t = some (.int .u64)
  | .i64 => P.underlying t = some (.int .i64)
  | .i32 => P.underlying t = some (.int .i32)
  | .bool => P.underlying t = some .bool
  | .str => P.underlying t = some .string
def AKs (P : Program) : List TypeId → List AK → Prop
  | [], [] => True
  | t :: ts, k :: ks => k.fits P t ∧ AKs P ts ks
  | _, _ => False
/-- Every list of arguments of these kinds. -/
def All : List AK → (List V → Prop) → Prop
  | [], q => q []
  | .u8 :: ks, q => ∀ x : BitVec 8, All ks fun l => q (.u8 x :: l)
  | .u32 :: ks, q => ∀ x : BitVec 32, All ks fun l => q (.u32 x :: l)
  | .u64 :: ks, q => ∀ x : BitVec 64, All ks fun l => q (.u64 x :: l)
  | .i64 :: ks, q => ∀ n : Int, -9223372036854775808 ≤ n → n ≤ 9223372036854775807 → All ks fun l => q (.i64 n :: l)
  | .i32 :: ks, q => ∀ n : Int, -2147483648 ≤ n → n ≤ 2147483647 → All ks fun l => q (.i32 n :: l)
  | .bool :: ks, q => ∀ b : Bool, All ks fun l => q (.bool b :: l)
  | .str :: ks, q => ∀ s : List (BitVec 8), s.length ≤ 140737488351232 → All ks fun l => q (.str s :: l)

theorem wf_uns {k : IntKind} {n : Int} {w : Nat} (h : (Lit.int k n).wf = true) (h1 : k.min = 0) (h2 : k.max = 2 ^ w - 1) : n = ((BitVec.ofInt w n).toNat : Int) := by
  simp only [Lit.wf, Bool.and_eq_true, decide_eq_true_eq, h1, h2] at h
  rw [BitVec.toNat_ofInt]
  have : ((2 ^ w : Nat) : Int) = 2 ^ w := by simp
  rw [this, Int.emod_eq_of_lt h.1 (by omega)]
  omega

section
variable {H : Type} {enc : TypeId × Value → H} {P : Program} {W : World} {base : Nat}
theorem open_args : ∀ {ts : List TypeId} {ks : List AK} {args : List Value} {ds : List (DataW H)} {p : List MemPlace}, AKs P ts ks → DataW.TrodAll enc P W 0 (fun _ => true) true ts args ds p →
    (∀ (j : Nat) t v, ts[j]? = some t → args[j]? = some v → Value.okWide P W .any base t v) → (DataW.weightsEach P ts ds).all (· ≤ reachBytes) = true →
    p = [] ∧ ds.length = ks.length ∧ (∃ vs, (∀ q, All ks q → q vs) ∧ VRs (fun _ => (0, 0)) (fun _ => False) W vs args) ∧ ∀ W' sp, DataW.TrodAll enc P W' 0 sp true ts args ds []
  | [], [], args, ds, p, _, hA, _, _ => by
    obtain ⟨rfl, rfl, rfl⟩ := trodAll_nil hA
    exact ⟨rfl, rfl, ⟨[], fun q h => h, by unfold VRs; rfl⟩, fun _ _ => trodAll_mk0⟩
  | t :: ts, k :: ks, args, ds, p, hk, hA, hv, hs => by
    obtain ⟨v0, vs0, d0, ds0, p0, q0, rfl, rfl, rfl, h0, r0⟩ := trodAll_cons hA
    have hs' : (DataW.weights P t d0).all (· ≤ reachBytes) = true ∧ (DataW.weightsEach P ts ds0).all (· ≤ reachBytes) = true := by
      rw [DataW.weightsEach, List.all_append, Bool.and_eq_true] at hs
      exact hs
    obtain ⟨e1, e2, ⟨vs, g1, g2⟩, g3⟩ := open_args hk.2 r0 (fun j t v h1 h2 => hv (j + 1) t v h1 h2) hs'.2
    have h00 := hv 0 t v0 rfl rfl
    subst e1
    have hf := hk.1
    have fin : ∀ (v : V), (∀ q, All (k :: ks) q → All ks fun l => q (v :: l)) → VR (fun _ => (0, 0)) (fun _ => False) W v v0 → (p0 = [] ∧ ∀ W' sp, DataW.Trod enc P W' 0 sp true t v0 d0 []) →
        p0 ++ [] = [] ∧ (d0 :: ds0).length = (k :: ks).length ∧ (∃ vs, (∀ q, All (k :: ks) q → q vs) ∧ VRs (fun _ => (0, 0)) (fun _ => False) W vs (v0 :: vs0)) ∧ ∀ W' sp, DataW.TrodAll enc P W' 0 sp true (t :: ts) (v0 :: vs0) (d0 :: ds0) [] := by
      intro v k1 k2 k3
      refine ⟨by rw [k3.1]; rfl, by simp [e2], ⟨v :: vs, fun q hq => g1 _ (k1 q hq), ?_⟩, fun W' sp => trodAll_cons_mk (k3.2 W' sp) (g3 W' sp)⟩
      unfold VRs
      exact ⟨v0, vs0, rfl, k2, g2⟩
    cases k with
    | u8 =>
      obtain ⟨n, rfl, rfl, rfl, hw⟩ := open_int hf h00 h0
      refine fin (.u8 (BitVec.ofInt 8 n)) (fun q hq => hq _) ?_ ⟨rfl, fun _ _ => shut_int hf hw⟩
      unfold VR; rw [← wf_uns (w := 8) hw rfl rfl]
    | u32 =>
      obtain ⟨n, rfl, rfl, rfl, hw⟩ := open_int hf h00 h0
      refine fin (.u32 (BitVec.ofInt 32 n)) (fun q hq => hq _) ?_ ⟨rfl, fun _ _ => shut_int hf hw⟩
      unfold VR; rw [← wf_uns (w := 32) hw rfl rfl]
    | u64 =>
      obtain ⟨n, rfl, rfl, rfl, hw⟩ := open_int hf h00 h0
      refine fin (.u64 (BitVec.ofInt 64 n)) (fun q hq => hq _) ?_ ⟨rfl, fun _ _ => shut_int hf hw⟩
      unfold VR; rw [← wf_uns (w := 64) hw rfl rfl]
    | i64 =>
      obtain ⟨n, rfl, rfl, rfl, hw⟩ := open_int hf h00 h0
      have hw' : -9223372036854775808 ≤ n ∧ n ≤ 9223372036854775807 := by simpa [Lit.wf, IntKind.min, IntKind.max, IntKind.bits, IntKind.signed] using hw
      exact fin (.i64 n) (fun q hq => hq _ hw'.1 hw'.2) (by unfold VR; rfl) ⟨rfl, fun _ _ => shut_int hf hw⟩
    | i32 =>
      obtain ⟨n, rfl, rfl, rfl, hw⟩ := open_int hf h00 h0
      have hw' : -2147483648 ≤ n ∧ n ≤ 2147483647 := by simpa [Lit.wf, IntKind.min, IntKind.max, IntKind.bits, IntKind.signed] using hw
      exact fin (.i32 n) (fun q hq => hq _ hw'.1 hw'.2) (by unfold VR; rfl) ⟨rfl, fun _ _ => shut_int hf hw⟩
    | bool =>
      obtain ⟨b, rfl, rfl, rfl⟩ := open_bool hf h00 h0
      exact fin (.bool b) (fun q hq => hq _) (by unfold VR; rfl) ⟨rfl, fun _ _ => shut_bool hf _⟩
    | str =>
      obtain ⟨s, rfl, rfl, rfl, hw⟩ := Go.ChangeMaps.open_string hf h00 h0
      have hl : (bytesOf s).length ≤ 140737488351232 := by
        have := hs'.1
        simp [DataW.weights, reachBytes] at this
        simp [bytesOf]
        exact of_decide_eq_true this
      exact fin (.str (bytesOf s)) (fun q hq => hq _ hl) (by unfold VR; exact ⟨s, rfl, rfl⟩) ⟨rfl, fun _ _ => Go.ChangeMaps.shut_string hf hw⟩
  | [], _ :: _, _, _, _, h, _, _, _ => h.elim
  | _ :: _, [], _, _, _, h, _, _, _ => h.elim

/-- A pure function leaves all that was there. -/
theorem pure_calls {f : FuncId} {args : List V} {rargs : Array Value} {b : Bool} (h : PureFn P f args (.bool b)) (hr : VRs (fun _ => (0, 0)) (fun _ => False) W args rargs.toList) :
    Calls P f rargs W fun e w' => e = .returned (.bool b) ∧ W.keptBut w' (fun _ => False) := by
  refine (h.2 (fun _ => none) 0 (fun _ => (0, 0)) (fun _ => False) (fun _ => none) W rargs ⟨fun _ _ h => by simp at h, fun _ _ h => by simp at h, fun _ _ _ _ h => by simp at h, fun _ _ h => by simp at h, fun _ _ h => by simp at h, fun _ _ _ h => by simp at h⟩ hr (fun _ _ => rfl) (fun _ _ _ h => h)).mono ?_
  rintro e w' ⟨r, ρ', rfl, _, _, g3, g4⟩
  unfold VR at g3
  refine ⟨by rw [g3], g4.os, g4.output, fun i hi => ?_⟩
  rw [g4.keep i hi (fun b B h => by simp at h)]
  exact (World.keptBut_refl W (fun _ => False)).2.2 i hi

/-- A LAW: the function answers true and nothing that it was handed turns. -/
theorem law_post {f : FuncId} {fn : Func} {s : ChangeSpec} {tb : TypeId} {ks : List AK} {args : Array Value} {ds gs : List (DataW H)} {before : List MemPlace} {apart fresh handsOn again : Bool}
    (hk : AKs P fn.params.toList ks) (hres : fn.resultTypes = #[tb]) (htb : P.underlying tb = some .bool) (hvars : s.vars = [])
    (hspec : ∀ ds : List (DataW H), ds.length = ks.length → (s.fn H ds).results = [.lit (.bool true)] ∧ (s.fn H ds).args = ds ∧ (s.fn H ds).vars = [])
    (hval : ∀ (j : Nat) t v, fn.params[j]? = some t → args[j]? = some v → Value.okWide P W .any base t v)
    (hW : DataW.Whole enc P fn.params.toList s.vars apart W args.toList ds gs before) (hsz : (DataW.weightsEach P (fn.params.toList ++ s.plain.varTypes P) (ds ++ gs)).all (· ≤ reachBytes) = true)
    (law : All ks fun vs => PureFn P f vs (.bool true)) :
    Calls P f args W fun e W' => ∃ v, e = .returned v ∧ s.post enc P fn apart fresh handsOn again W args v W' := by
  have hW' := hW
  obtain ⟨p, q, hA, hV, rfl, hfz, hnd⟩ := hW
  rw [hvars] at hV
  obtain ⟨rfl, rfl⟩ := trodVars_none hV
  have hs2 : (DataW.weightsEach P fn.params.toList ds).all (· ≤ reachBytes) = true := by
    have : s.plain.varTypes P = [] := by simp [ChangeSpec.plain, DataSpec.varTypes, hvars]
    rw [this, List.append_nil, List.append_nil] at hsz
    exact hsz
  obtain ⟨rfl, hl, ⟨vs, g1, g2⟩, g3⟩ := open_args hk hA (fun j t v h1 h2 => hval j t v (by simpa using h1) (by simpa using h2)) hs2
  obtain ⟨k1, k2, k3⟩ := hspec ds hl
  refine (pure_calls (g1 _ law) g2).mono fun e W' ⟨he, hg⟩ => ?_
  subst he
  have r1 : ∀ b sp hd, DataW.TrodAll enc P W' b sp hd fn.resultTypes.toList ((Value.bool true).resultList fn.resultTypes.size) (s.fn H (ds ++ [])).results [] := fun b sp hd => by
    rw [hres, List.append_nil, k1]; exact trodAll_cons_mk (shut_bool htb _) trodAll_mk0
  have r2 : ∀ sp, DataW.TrodAll enc P W' 0 sp true fn.params.toList args.toList (s.fn H (ds ++ [])).args [] := fun sp => by
    rw [List.append_nil, k2]; exact g3 _ _
  have r3 : ∀ sp, DataW.TrodVars enc P W' sp s.vars (s.fn H (ds ++ [])).vars [] := fun sp => by
    rw [hvars, List.append_nil, k3]; rfl
  refine ⟨_, rfl, ds, [], [], [], [], [], hW', r1 _ _ _, r2 _, r3 _, World.keptBut_mono (fun _ f => f.elim) hg, fun _ => ?_⟩
  refine ⟨ok_one hres rfl (okWide_bool_mk htb _), _, _, ([] ++ []) ++ [], ⟨[] ++ [], [], trodAll_append (r2 _) (r1 _ _ _), r3 _, rfl, ?_, ?_⟩, ?_⟩
  · intro b off hp; simp at hp
  · intro _; simp
  · intro p hp; simp at hp
end
end Go.Vm
end
section
namespace Go.Vm
/-! Natural numbers among the signed ones. -/
theorem w64_nat {x : Nat} (h : x < 9223372036854775808) : w64 (x : Int) = x := w64_of (by omega) (by omega)
theorem xor64_nat {x y : Nat} (hx : x < 9223372036854775808) (hy : y < 9223372036854775808) : xor64 x y = ((x ^^^ y : Nat) : Int) := by
  unfold xor64
  have h1 : (BitVec.ofInt 64 (x : Int) ^^^ BitVec.ofInt 64 (y : Int)).toNat = x ^^^ y := by
    simp only [BitVec.toNat_xor, BitVec.ofInt_natCast, BitVec.toNat_ofNat]
    rw [Nat.mod_eq_of_lt (by omega), Nat.mod_eq_of_lt (by omega)]
  rw [h1]
  exact w64_nat (Nat.xor_lt_two_pow (n := 63) hx hy)
theorem and64_nat {x y : Nat} (hx : x < 9223372036854775808) (hy : y < 9223372036854775808) : and64 x y = ((x &&& y : Nat) : Int) := by
  unfold and64
  have h1 : (BitVec.ofInt 64 (x : Int) &&& BitVec.ofInt 64 (y : Int)).toNat = x &&& y := by
    simp only [BitVec.toNat_and, BitVec.ofInt_natCast, BitVec.toNat_ofNat]
    rw [Nat.mod_eq_of_lt (by omega), Nat.mod_eq_of_lt (by omega)]
  rw [h1]
  exact w64_nat (Nat.and_lt_two_pow (n := 63) x hy)
theorem or64_nat {x y : Nat} (hx : x < 9223372036854775808) (hy : y < 9223372036854775808) : or64 x y = ((x ||| y : Nat) : Int) := by
  unfold or64
  have h1 : (BitVec.ofInt 64 (x : Int) ||| BitVec.ofInt 64 (y : Int)).toNat = x ||| y := by
    simp only [BitVec.toNat_or, BitVec.ofInt_natCast, BitVec.toNat_ofNat]
    rw [Nat.mod_eq_of_lt (by omega), Nat.mod_eq_of_lt (by omega)]
  rw [h1]
  exact w64_nat (Nat.or_lt_two_pow (n := 63) hx hy)
theorem shl64_nat {x n : Nat} (hn : n ≤ 64) (h : x <<< n < 9223372036854775808) : shl64 x n = ((x <<< n : Nat) : Int) := by
  unfold shl64
  rw [Nat.min_eq_left hn]
  have : ((x : Int) * 2 ^ n) = ((x <<< n : Nat) : Int) := by rw [Nat.shiftLeft_eq]; simp
  rw [this]; exact w64_nat h
theorem shr64_nat {x n : Nat} (hn : n ≤ 64) : shr64 x n = ((x >>> n : Nat) : Int) := by
  unfold shr64
  rw [Nat.min_eq_left hn, Nat.shiftRight_eq_div_pow]
  have : (2 ^ n : Int) = ((2 ^ n : Nat) : Int) := by simp
  rw [this, Int.fdiv_eq_ediv_of_nonneg _ (Int.natCast_nonneg _)]
  exact (Int.natCast_ediv x (2 ^ n)).symm
theorem tmod_nat (x y : Nat) : (x : Int).tmod (y : Int) = ((x % y : Nat) : Int) := rfl
theorem tdiv_nat (x y : Nat) : (x : Int).tdiv (y : Int) = ((x / y : Nat) : Int) := rfl
theorem mul64_nat {x y : Nat} (h : x * y < 9223372036854775808) : w64 ((x : Int) * (y : Int)) = ((x * y : Nat) : Int) := by rw [← Int.natCast_mul]; exact w64_nat h
theorem add64_nat {x y : Nat} (h : x + y < 9223372036854775808) : w64 ((x : Int) + (y : Int)) = ((x + y : Nat) : Int) := by rw [← Int.natCast_add]; exact w64_nat h
/-- All numbers below k. -/
def nall (p : Nat → Bool) : Nat → Bool := fun k => Nat.rec true (fun i ih => and (p i) ih) k
theorem nall_get {p : Nat → Bool} : ∀ {k : Nat}, nall p k = true → ∀ i, i < k → p i = true
  | k + 1, h, i, hi => by
    have h' : (p k && nall p k) = true := h
    rw [Bool.and_eq_true] at h'
    by_cases e : i = k
    · subst e; exact h'.1
    · exact nall_get h'.2 i (by omega)
end Go.Vm
end
section
namespace Go.Vm
section
variable {P : Program} {m n : Nat} {R : Exit → St → Prop} {k : List Fr} {s : St} {c : Code}
/-- At most so many rounds. -/
def unr (P : Program) (m n : Nat) (R : Exit → St → Prop) (c : Code) (k : List Fr) : Nat → St → Prop
  | 0, _ => False
  | K + 1, s => go P m n (seqQ (unr P m n R c k K) (kQ P m n R k)) c [] s
theorem unr_step (K : Nat) (h : (0 < K) = True) : unr P m n R c k K s = go P m n (seqQ (unr P m n R c k (K - 1)) (kQ P m n R k)) c [] s := by
  cases K with
  | zero => simp at h
  | succ K => rfl
theorem go_unroll (K : Nat) (h : unr P m n R c k K s) : go P m n R (.loop c) k s := by
  refine go_loop (fun j s => unr P m n R c k j s) ⟨K, s, Weak.refl _ _ _, h⟩ (fun j s hj _ => ?_)
  cases j with
  | zero => exact hj.elim
  | succ j =>
    refine vc_mono c _ _ s (fun e s' he => ?_) hj
    cases e
    case normal => exact ⟨j, s', Nat.lt_succ_self j, Weak.refl _ _ _, he⟩
    all_goals exact he
theorem vres_cell (P : Program) (s : St) (x t : Nat) (r : List ResultVar) (K : List V → Prop) : vresults P s (.cell x t :: r) K = vthen (vop P (.load t (.tmp x)) s.ev (getH s.H) s.H.length) (fun res => vresults P s r fun l => K (res.v :: l)) := rfl
attribute [go_sem] unr_step vres_cell vthen_some
end
end Go.Vm
end
section
namespace Go.Vm
/-! More rewriting rules for the simplifier. -/
attribute [go_sem] vfill vrep V.cells V.solid V.nat? vlow vhigh vsrc isStr eszOk srcT vappend vbuiltin vconv vaggEq tyOk V.beq1 V.low lows
theorem vone_u8 (x : BitVec 8) : V.one (.u8 x) = true := rfl
theorem vone_u32 (x : BitVec 32) : V.one (.u32 x) = true := rfl
theorem vone_u64 (x : BitVec 64) : V.one (.u64 x) = true := rfl
theorem vone_i64 (x : Int) : V.one (.i64 x) = true := rfl
theorem vone_i32 (x : Int) : V.one (.i32 x) = true := rfl
theorem vone_bool (x : Bool) : V.one (.bool x) = true := rfl
theorem vone_str (x : List Byte) : V.one (.str x) = true := rfl
theorem vone_ptr (b o : Nat) : V.one (.ptr b o) = true := rfl
theorem vone_slice (b o l e : Nat) : V.one (.slice b o l e) = true := rfl
theorem vone_fn (f : FuncId) (a c : List V) : V.one (.fn f a c) = true := rfl
theorem vone_iface (t : TypeId) (v : V) : V.one (.iface t v) = true := rfl
theorem vone_nilPtr : V.one .nilPtr = true := rfl
theorem vone_nilSlice : V.one .nilSlice = true := rfl
theorem vone_nilFn : V.one .nilFn = true := rfl
theorem vone_nilIface : V.one .nilIface = true := rfl
theorem splice_one (cs : List V) (o : Nat) (x : V) : splice cs o [x] = cs.set o x := rfl
theorem splice_nil (cs : List V) (o : Nat) : splice cs o [] = cs.take o ++ [] ++ cs.drop (o + 0) := rfl
theorem splice_two (cs : List V) (o : Nat) (x y : V) (l : List V) : splice cs o (x :: y :: l) = cs.take o ++ (x :: y :: l) ++ cs.drop (o + (x :: y :: l).length) := rfl
theorem splice_all (cs xs : List V) (h : xs.length = cs.length) : splice cs 0 xs = xs := by
  match xs, cs, h with
  | [], [], _ => rfl
  | [x], [c], _ => rfl
  | x :: y :: l, cs, h =>
    rw [splice_two, Nat.zero_add, List.drop_of_length_le (by omega)]; simp
attribute [go_sem] vone_u8 vone_u32 vone_u64 vone_i64 vone_i32 vone_bool vone_str vone_ptr vone_slice vone_fn vone_iface vone_nilPtr vone_nilSlice vone_nilFn vone_nilIface splice_one splice_nil splice_two
theorem getH_nil (b : Nat) : getH [] b = none := rfl
theorem getH_zero (x : Option Blk) (l : List (Option Blk)) : getH (x :: l) 0 = x := rfl
theorem getH_succ (x : Option Blk) (l : List (Option Blk)) (b : Nat) : getH (x :: l) (b + 1) = getH l b := rfl
theorem setOlds_cons (H : List (Option Blk)) (b : Nat) (x : Option Blk) (l : List (Nat × Option Blk)) : setOlds H ((b, x) :: l) = (setOlds H l).set b x := rfl
theorem bytesOf_nil : bytesOf { data := #[] } = [] := rfl
theorem bytesOf_mk (l : List UInt8) : bytesOf { data := l.toArray } = l.map UInt8.toBitVec := rfl
attribute [go_sem] bytesOf_nil foot List.range'_zero List.range'_one
attribute [go_sem] getH_nil getH_zero getH_succ setOlds_cons
theorem lows_ite (n : Nat) (c : Prop) [Decidable c] (a b : List V) : lows n (if c then a else b) = if c then lows n a else lows n b := apply_ite _ _ _ _
theorem low_ite (n : Nat) (c : Prop) [Decidable c] (a b : V) : (if c then a else b).low n = if c then a.low n else b.low n := apply_ite (V.low n) _ _ _
theorem evs_ite (c : Prop) [Decidable c] (a b : List V) (i : Nat) : (if c then a else b)[i]? = if c then a[i]? else b[i]? := apply_ite (fun l : List V => l[i]?) _ _ _
/-! Rows of bytes. -/
theorem getD_u8 {s : List (BitVec 8)} {i : Nat} (h : i < s.length) : (s.map V.u8).getD i .junk = .u8 (s.getD i 0) := by
  rw [List.getD_eq_getElem?_getD, List.getD_eq_getElem?_getD, List.getElem?_map, List.getElem?_eq_getElem h]; rfl
theorem set_u8 (s : List (BitVec 8)) (i : Nat) (x : BitVec 8) : (s.map V.u8).set i (.u8 x) = (s.set i x).map V.u8 := List.map_set.symm
theorem take_u8 (s : List (BitVec 8)) (i : Nat) : (s.map V.u8).take i = (s.take i).map V.u8 := List.map_take.symm
theorem drop_u8 (s : List (BitVec 8)) (i : Nat) : (s.map V.u8).drop i = (s.drop i).map V.u8 := List.map_drop.symm
theorem append_u8 (s t : List (BitVec 8)) : s.map V.u8 ++ t.map V.u8 = (s ++ t).map V.u8 := List.map_append.symm
theorem bytes_u8 (s : List (BitVec 8)) : (s.map V.u8).map V.byte = s := by
  rw [List.map_map]
  have : V.byte ∘ V.u8 = id := rfl
  rw [this, List.map_id]
theorem all_u8 (s : List (BitVec 8)) : (∀ v ∈ s.map V.u8, ∃ x, v = .u8 x) = True := by
  simp only [List.mem_map]
  exact propext ⟨fun _ => trivial, fun _ v ⟨x, _, e⟩ => ⟨x, e.symm⟩⟩
theorem one_u8 (s : List (BitVec 8)) : (∀ v ∈ s.map V.u8, v.one = true) = True := by
  refine propext ⟨fun _ => trivial, fun _ v hv => ?_⟩
  obtain ⟨x, _, rfl⟩ := List.mem_map.1 hv
  rfl
attribute [go_sem] set_u8 take_u8 drop_u8 append_u8 bytes_u8 all_u8 one_u8 V.byte List.length_map
end Go.Vm
end
