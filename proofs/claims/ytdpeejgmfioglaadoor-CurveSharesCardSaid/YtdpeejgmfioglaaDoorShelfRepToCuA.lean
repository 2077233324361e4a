/- A part of the proof: laws of a small machine of values, or what one function answers, proved against the model; no conditions beyond those in each theorem. -/
import Derived.Shelf.Strings.Repeat
import Derived.Test.YtdpeejgmfioglaaDoorTypesToVmU
import Derived.Test.YtdpeejgmfioglaaDoorVmI1ToEl13
set_option linter.unusedVariables false
set_option linter.unusedSimpArgs false
set_option linter.unusedSectionVars false
section
namespace Go.Vm
open Go.Proofs Go.Shelf
def shelf_lays105_ren : Go.Shelf.Ren := ⟨fun | 105 => 18 | 212 => 30 | 99 => 31 | 165 => 32 | 166 => 33 | 170 => 34 | 169 => 35 | 263 => 57 | 264 => 58 | 206 => 59 | 240 => 60 | 241 => 61 | 276 => 75 | 277 => 76 | n => n, fun | 9 => 9 | 3 => 3 | 4 => 4 | 20 => 20 | 0 => 0 | 46 => 32 | 109 => 42 | 5 => 5 | 72 => 46 | 76 => 50 | 51 => 29 | 146 => 75 | 53 => 67 | 148 => 77 | 70 => 44 | 37 => 28 | 75 => 49 | 127 => 79 | 164 => 94 | 80 => 53 | n => n, fun | n => n⟩
theorem shelf_lays105 : Go.Proofs.Lays.n105 Tryd.prog shelf_lays105_ren := {
  mixed := by kernel_rfl
  f99 := Tryd.func31.trans (congrArg some (by kernel_rfl))
  f105 := Tryd.func18.trans (congrArg some (by kernel_rfl))
  f165 := Tryd.func32.trans (congrArg some (by kernel_rfl))
  f166 := Tryd.func33.trans (congrArg some (by kernel_rfl))
  f169 := Tryd.func35.trans (congrArg some (by kernel_rfl))
  f170 := Tryd.func34.trans (congrArg some (by kernel_rfl))
  f206 := Tryd.func59.trans (congrArg some (by kernel_rfl))
  f212 := Tryd.func30.trans (congrArg some (by kernel_rfl))
  f240 := Tryd.func60.trans (congrArg some (by kernel_rfl))
  f241 := Tryd.func61.trans (congrArg some (by kernel_rfl))
  f263 := Tryd.func57.trans (congrArg some (by kernel_rfl))
  f264 := Tryd.func58.trans (congrArg some (by kernel_rfl))
  f276 := Tryd.func75.trans (congrArg some (by kernel_rfl))
  f277 := Tryd.func76.trans (congrArg some (by kernel_rfl))
  t0 := Tryd.underlying0
  a0 := Tryd.isAgg0
  z0 := Tryd.sizeOf0
  v0 := Tryd.zeroValue0
  t3 := Tryd.underlying3
  a3 := Tryd.isAgg3
  z3 := Tryd.sizeOf3
  v3 := Tryd.zeroValue3
  t4 := Tryd.underlying4
  a4 := Tryd.isAgg4
  z4 := Tryd.sizeOf4
  v4 := Tryd.zeroValue4
  t5 := Tryd.underlying5
  a5 := Tryd.isAgg5
  z5 := Tryd.sizeOf5
  v5 := Tryd.zeroValue5
  t9 := Tryd.underlying9
  a9 := Tryd.isAgg9
  z9 := Tryd.sizeOf9
  v9 := Tryd.zeroValue9
  t20 := Tryd.underlying20
  a20 := Tryd.isAgg20
  z20 := Tryd.sizeOf20
  v20 := Tryd.zeroValue20
  t37 := Tryd.underlying28
  a37 := Tryd.isAgg28
  z37 := Tryd.sizeOf28
  v37 := Tryd.zeroValue28
  t46 := Tryd.underlying32
  a46 := Tryd.isAgg32
  z46 := Tryd.sizeOf32
  v46 := Tryd.zeroValue32
  t51 := Tryd.underlying29
  a51 := Tryd.isAgg29
  z51 := Tryd.sizeOf29
  v51 := Tryd.zeroValue29
  t53 := Tryd.underlying67
  a53 := Tryd.isAgg67
  z53 := Tryd.sizeOf67
  v53 := Tryd.zeroValue67
  t70 := Tryd.underlying44
  a70 := Tryd.isAgg44
  z70 := Tryd.sizeOf44
  v70 := Tryd.zeroValue44
  t72 := Tryd.underlying46
  a72 := Tryd.isAgg46
  z72 := Tryd.sizeOf46
  v72 := Tryd.zeroValue46
  t75 := Tryd.underlying49
  a75 := Tryd.isAgg49
  z75 := Tryd.sizeOf49
  v75 := Tryd.zeroValue49
  t76 := Tryd.underlying50
  a76 := Tryd.isAgg50
  z76 := Tryd.sizeOf50
  v76 := Tryd.zeroValue50
  t109 := Tryd.underlying42
  a109 := Tryd.isAgg42
  z109 := Tryd.sizeOf42
  v109 := Tryd.zeroValue42
  t127 := Tryd.underlying79
  a127 := Tryd.isAgg79
  z127 := Tryd.sizeOf79
  v127 := Tryd.zeroValue79
  t146 := Tryd.underlying75
  a146 := Tryd.isAgg75
  z146 := Tryd.sizeOf75
  v146 := Tryd.zeroValue75
  t148 := Tryd.underlying77
  a148 := Tryd.isAgg77
  z148 := Tryd.sizeOf77
  v148 := Tryd.zeroValue77
  t164 := Tryd.underlying94
  a164 := Tryd.isAgg94
  z164 := Tryd.sizeOf94
  v164 := Tryd.zeroValue94 }
theorem shelf_Builder_Extra_105 : Builder.Extra Tryd.prog shelf_lays105_ren := {
  sizeBuilder := by kernel_rfl
  liesBuilder := by kernel_rfl
  t5 := Tryd.underlying5
  a5 := Tryd.isAgg5
  z5 := Tryd.sizeOf5
  v5 := Tryd.zeroValue5
  infoByte := by kernel_rfl
  cellsByte := by kernel_rfl
  sizeByte := by kernel_rfl
  neB5 := by decide }
open Go.RowKit Go.Lib in
theorem shelf_strings_Repeat (s : ByteArray) (c : Nat) (w : World) (hc : c ≤ 9223372036854775807) (hlen : s.size * c ≤ 140737488355328) :
    Calls Tryd.prog 18 #[.string s, .int .i64 c] w fun e w' => e = .returned (.string ⟨(Lib.repeatL s.data.toList c).toArray⟩) ∧ Below w.heap.size w w' := Any.strings_Repeat shelf_lays105 shelf_Builder_Extra_105 s c w hc hlen
end Go.Vm
end
section
namespace Go.Vm
open Go.Proofs
set_option maxRecDepth 20000
def fillB (s : List (BitVec 8)) : List (BitVec 8) := s ++ List.replicate ((16 - s.length % 16) % 16) 0
theorem fillB_length (s : List (BitVec 8)) : (fillB s).length = 16 * ((s.length + 15) / 16) := by unfold fillB; rw [List.length_append, List.length_replicate]; omega
theorem repeat_zero (k : Nat) : ∀ (l : List UInt8), l.map UInt8.toBitVec = [0#8] → (Lib.repeatL l k).map UInt8.toBitVec = List.replicate k 0#8 := by
  intro l h
  induction k with
  | zero => rfl
  | succ k ih => rw [Lib.repeatL, List.map_append, ih, h, List.replicate_succ]; rfl
theorem Repeat_spec (k : Nat) (hk : k ≤ 1000) : PureFn Tryd.prog 18 [.str [0#8], .i64 k] (.str (List.replicate k 0#8)) := by
  refine pure_of_below (by kernel_rfl) (by simp [lows, V.low]) (by simp [V.low]) fun w rargs hr => ?_
  unfold VRs at hr
  obtain ⟨r1, rs, e1, h1, hr⟩ := hr
  unfold VRs at hr
  obtain ⟨r2, rs2, e2, h2, hr⟩ := hr
  unfold VRs at hr
  unfold VR at h1 h2
  obtain ⟨b, rfl, hb⟩ := h1
  subst h2 hr e2
  have ha : rargs = #[.string b, .int .i64 k] := by cases rargs; simp_all
  subst ha
  have hsz : b.size = 1 := by
    have := congrArg List.length hb
    unfold bytesOf at this
    rw [List.length_map, Array.length_toList] at this
    exact this
  refine (shelf_strings_Repeat b k w (by omega) (by rw [hsz]; omega)).mono ?_
  rintro e w' ⟨rfl, hbl⟩
  refine ⟨_, rfl, ?_, hbl⟩
  unfold VR
  exact ⟨_, rfl, repeat_zero k _ hb⟩
theorem zeros_spec (k : Nat) (hk : k ≤ 1000) : PureFn Tryd.prog 20 [.i64 k] (.str (List.replicate k 0#8)) := by
  have hc := chr_spec 0
  rw [show BitVec.ofInt 8 0 = 0#8 from rfl] at hc
  refine pure_of_vc (by kernel_rfl) (fn := Tryd.f20) (by kernel_rfl) Tryd.func20 rfl (by show 1 ≤ 6; decide) (by simp [lows, V.low]) (by simp [lows, V.low, lows_ite, low_ite]) (go_start ?_)
  simp only [go_sem, ↓reduceIte, Nat.reduceEqDiff, Nat.reduceLT, Nat.reduceLeDiff, Nat.reduceAdd, Nat.reduceSub, Nat.reduceMul, Nat.reduceMod, Nat.reduceDiv, Int.reduceLE, Int.reduceLT, Int.reduceToNat, Int.reduceAdd, Int.reduceSub, Int.reduceMul, Int.reduceEq, Int.reduceNeg, BitVec.reduceOfInt, BitVec.reduceToNat, BitVec.reduceEq, BitVec.reduceNe, BitVec.reduceLT, reduceCtorEq, List.forall_mem_nil, Tryd.ntmps20, Tryd.results20]
  refine goCall_pure0 (hc) ?_
  simp only [go_sem, ↓reduceIte, Nat.reduceEqDiff, Nat.reduceLT, Nat.reduceLeDiff, Nat.reduceAdd, Nat.reduceSub, Nat.reduceMul, Nat.reduceMod, Nat.reduceDiv, Int.reduceLE, Int.reduceLT, Int.reduceToNat, Int.reduceAdd, Int.reduceSub, Int.reduceMul, Int.reduceEq, Int.reduceNeg, BitVec.reduceOfInt, BitVec.reduceToNat, BitVec.reduceEq, BitVec.reduceNe, BitVec.reduceLT, reduceCtorEq, List.forall_mem_nil]
  refine goCall_pure0 (Repeat_spec k hk) ?_
  simp only [go_sem, ↓reduceIte, Nat.reduceEqDiff, Nat.reduceLT, Nat.reduceLeDiff, Nat.reduceAdd, Nat.reduceSub, Nat.reduceMul, Nat.reduceMod, Nat.reduceDiv, Int.reduceLE, Int.reduceLT, Int.reduceToNat, Int.reduceAdd, Int.reduceSub, Int.reduceMul, Int.reduceEq, Int.reduceNeg, BitVec.reduceOfInt, BitVec.reduceToNat, BitVec.reduceEq, BitVec.reduceNe, BitVec.reduceLT, reduceCtorEq, List.forall_mem_nil]
theorem neg_tmod (n : Nat) : (-(n : Int)).tmod 16 = -((n % 16 : Nat) : Int) := by rw [Int.neg_tmod]; rfl
theorem Rest_spec (n : Nat) (hn : n ≤ 140737488351232) : PureFn Tryd.prog 66 [.i64 (-(n : Int)), .i64 16] (.i64 (((16 - n % 16) % 16 : Nat) : Int)) := by
  have h1 := neg_tmod n
  by_cases h0 : n % 16 = 0
  · have h2 : -((n % 16 : Nat) : Int) = 0 := by omega
    have h3 : (16 - n % 16) % 16 = 0 := by omega
    rw [h2] at h1
    refine pure_of_vc (by kernel_rfl) (fn := Tryd.f66) (by kernel_rfl) Tryd.func66 rfl (by show 2 ≤ 15; decide) (by simp [lows, V.low]) (by simp [lows, V.low, lows_ite, low_ite]) (go_start ?_)
    simp only [go_sem, ↓reduceIte, Nat.reduceEqDiff, Nat.reduceLT, Nat.reduceLeDiff, Nat.reduceAdd, Nat.reduceSub, Nat.reduceMul, Nat.reduceMod, Nat.reduceDiv, Int.reduceLE, Int.reduceLT, Int.reduceToNat, Int.reduceAdd, Int.reduceSub, Int.reduceMul, Int.reduceEq, Int.reduceNeg, BitVec.reduceOfInt, BitVec.reduceToNat, BitVec.reduceEq, BitVec.reduceNe, BitVec.reduceLT, reduceCtorEq, List.forall_mem_nil, Tryd.ntmps66, Tryd.results66, h1, h3]
  · have h2 : -((n % 16 : Nat) : Int) < 0 := by omega
    have h3 : w64 (-((n % 16 : Nat) : Int) + 16) = (((16 - n % 16) % 16 : Nat) : Int) := by rw [w64_of (by omega) (by omega)]; omega
    have h4 : w64 (-((n % 16 : Nat) : Int)) = -((n % 16 : Nat) : Int) := w64_of (by omega) (by omega)
    refine pure_of_vc (by kernel_rfl) (fn := Tryd.f66) (by kernel_rfl) Tryd.func66 rfl (by show 2 ≤ 15; decide) (by simp [lows, V.low]) (by simp [lows, V.low, lows_ite, low_ite]) (go_start ?_)
    simp only [go_sem, ↓reduceIte, Nat.reduceEqDiff, Nat.reduceLT, Nat.reduceLeDiff, Nat.reduceAdd, Nat.reduceSub, Nat.reduceMul, Nat.reduceMod, Nat.reduceDiv, Int.reduceLE, Int.reduceLT, Int.reduceToNat, Int.reduceAdd, Int.reduceSub, Int.reduceMul, Int.reduceEq, Int.reduceNeg, BitVec.reduceOfInt, BitVec.reduceToNat, BitVec.reduceEq, BitVec.reduceNe, BitVec.reduceLT, reduceCtorEq, List.forall_mem_nil, Tryd.ntmps66, Tryd.results66, h1, h2, h3, h4]
end Go.Vm
end
section
namespace Go.Vm
open Go.Proofs
set_option maxRecDepth 20000
theorem emod_pow {a b p : Int} (h : a % p = b % p) (k : Nat) : a ^ k % p = b ^ k % p := by
  induction k with
  | zero => rw [Int.pow_zero, Int.pow_zero]
  | succ k ih => rw [Int.pow_succ, Int.pow_succ, Int.mul_emod, ih, h, ← Int.mul_emod]
theorem same_power {x ws : List (BitVec 64)} {m : List Int} {s : List (BitVec 8)} (h : Same x m) (he : valQ ws = numS s s.length) : Same (accE x ws (64 * ws.length)) (accI m s s.length) := by
  refine ⟨accE_sm x ws h.1 _, accI_ok m s h.2.1 _, ?_⟩
  have h1 := accE_val x ws h.1 (64 * ws.length) (Nat.le_refl _)
  rw [Nat.sub_self, Nat.pow_zero, Nat.div_one, he] at h1
  have h2 := of_nat_mod h1
  rw [h2, accI_val m s h.2.1, Int.natCast_pow]
  exact emod_pow h.2.2 _
theorem numS_cons (b : BitVec 8) (l : List (BitVec 8)) (c : Nat) : numS (b :: l) (c + 1) = (if b = 49#8 then 1 else 0) * 2 ^ c + numS l c := by
  induction c with
  | zero =>
    show (if (b :: l).getD 0 0 = 49#8 then 2 * 0 + 1 else 2 * 0) = _
    rw [List.getD_cons_zero]
    split <;> simp [numS]
  | succ c ih =>
    rw [numS, ih, List.getD_cons_succ, numS, Nat.pow_succ]
    split <;> split <;> omega
def bitB (n : Nat) : BitVec 8 := if n % 2 = 1 then 49#8 else 48#8
/-- The lowest k bits of a number, the highest of them first. -/
def binS (n : Nat) : Nat → List (BitVec 8)
  | 0 => []
  | k + 1 => bitB (n / 2 ^ k) :: binS n k
theorem binS_length (n k : Nat) : (binS n k).length = k := by
  induction k with
  | zero => rfl
  | succ k ih => rw [binS, List.length_cons, ih]
theorem bitB_lt (n : Nat) : (bitB n).toNat < 128 := by unfold bitB; split <;> decide
theorem binS_lt (n k : Nat) : ∀ c ∈ binS n k, c.toNat < 128 := by
  induction k with
  | zero => intro c hc; simp [binS] at hc
  | succ k ih =>
    intro c hc
    rw [binS] at hc
    rcases List.mem_cons.1 hc with rfl | hc
    · exact bitB_lt _
    · exact ih c hc
theorem numS_bin (n k : Nat) : numS (binS n k) k = n % 2 ^ k := by
  induction k with
  | zero => simp [binS, numS, Nat.mod_one]
  | succ k ih =>
    rw [binS, numS_cons, ih, Nat.pow_succ, Nat.mod_mul]
    unfold bitB
    have : n / 2 ^ k % 2 = 0 ∨ n / 2 ^ k % 2 = 1 := by omega
    rcases this with h | h
    · rw [h]; simp
    · rw [h]; simp [Nat.add_comm]
theorem bit_chr (N : BitVec 64) : BitVec.ofInt 8 (w64 ((48#64 + N % 2#64).toNat : Int)) = bitB N.toNat := by
  have h : (48#64 + N % 2#64).toNat = 48 + N.toNat % 2 := by
    rw [BitVec.toNat_add, BitVec.toNat_umod, show (48#64).toNat = 48 from rfl, show (2#64).toNat = 2 from rfl]; omega
  rw [h, w64_of (by omega) (by omega)]
  unfold bitB
  by_cases h1 : N.toNat % 2 = 1
  · rw [if_pos h1, h1]; rfl
  · rw [if_neg h1, show N.toNat % 2 = 0 by omega]; rfl
theorem half_of (n : BitVec 64) (k : Nat) : BitVec.ofNat 64 (n.toNat / 2 ^ k) / 2#64 = BitVec.ofNat 64 (n.toNat / 2 ^ (k + 1)) := by
  have hlt : n.toNat / 2 ^ k < 2 ^ 64 := Nat.lt_of_le_of_lt (Nat.div_le_self _ _) n.isLt
  apply BitVec.eq_of_toNat_eq
  rw [BitVec.toNat_udiv, show (2#64).toNat = 2 from rfl, BitVec.toNat_ofNat, BitVec.toNat_ofNat, Nat.mod_eq_of_lt hlt, Nat.pow_succ, ← Nat.div_div_eq_div_mul, Nat.mod_eq_of_lt (by omega)]
def invW (n : BitVec 64) : List (BitVec 64) := [n - 20#64, n, n, n >>> 1]
/-- The bits of P - 2. -/
def bitsP : List (BitVec 8) := List.replicate 250 49#8 ++ [48#8, 49#8, 48#8, 49#8, 49#8]
theorem bitsP_num : valQ (invW 18446744073709551615#64) = numS bitsP bitsP.length := by kernel_rfl
theorem bitsP_lt : ∀ c ∈ bitsP, c.toNat < 128 := by
  intro c hc
  unfold bitsP at hc
  rcases List.mem_append.1 hc with h | h
  · rw [List.eq_of_mem_replicate h]; decide
  · simp only [List.mem_cons, List.not_mem_nil, or_false] at h
    rcases h with rfl | rfl | rfl | rfl | rfl <;> decide
def invI (m : List Int) : List Int := accI m bitsP bitsP.length
theorem repeat_one (c : BitVec 8) (k : Nat) : ∀ (l : List UInt8), l.map UInt8.toBitVec = [c] → (Lib.repeatL l k).map UInt8.toBitVec = List.replicate k c := by
  intro l h
  induction k with
  | zero => rfl
  | succ k ih => rw [Lib.repeatL, List.map_append, ih, h, List.replicate_succ]; rfl
theorem RepeatC_spec (c : BitVec 8) (k : Nat) (hk : k ≤ 1000) : PureFn Tryd.prog 18 [.str [c], .i64 k] (.str (List.replicate k c)) := by
  refine pure_of_below (by kernel_rfl) (by simp [lows, V.low]) (by simp [V.low]) fun w rargs hr => ?_
  unfold VRs at hr
  obtain ⟨r1, rs, e1, h1, hr⟩ := hr
  unfold VRs at hr
  obtain ⟨r2, rs2, e2, h2, hr⟩ := hr
  unfold VRs at hr
  unfold VR at h1 h2
  obtain ⟨b, rfl, hb⟩ := h1
  subst h2 hr e2
  have ha : rargs = #[.string b, .int .i64 k] := by cases rargs; simp_all
  subst ha
  have hsz : b.size = 1 := by
    have := congrArg List.length hb
    unfold bytesOf at this
    rw [List.length_map, Array.length_toList] at this
    exact this
  refine (shelf_strings_Repeat b k w (by omega) (by rw [hsz]; omega)).mono ?_
  rintro e w' ⟨rfl, hbl⟩
  refine ⟨_, rfl, ?_, hbl⟩
  unfold VR
  exact ⟨_, rfl, repeat_one c k _ hb⟩
theorem inverse_spec (m : List Int) (hm : okI m) : PureFn Tryd.prog 40 [.agg (m.map .i64)] (.agg ((invI m).map .i64)) := by
  have hp := powerI_spec m bitsP hm bitsP_lt
  have hl := (accI_ok m bitsP hm bitsP.length).1
  have hr := RepeatC_spec 49#8 250 (by decide)
  have hm16 : min 16 16 = 16 := rfl
  have hb : List.replicate 250 49#8 ++ bytesOf ⟨#[48, 49, 48, 49, 49]⟩ = bitsP := rfl
  have hb2 : bytesOf ⟨#[49]⟩ = [49#8] := rfl
  unfold invI
  generalize accI m bitsP bitsP.length = r at hp hl ⊢
  refine pure_of_vc (by kernel_rfl) (fn := Tryd.f40) (by kernel_rfl) Tryd.func40 rfl (by show 1 ≤ 7; decide) (by simp [lows_i64, lows, V.low]) (by simp [lows_i64, lows, V.low, lows_ite, low_ite]) (go_start ?_)
  simp only [go_sem, ↓reduceIte, Nat.reduceEqDiff, Nat.reduceLT, Nat.reduceLeDiff, Nat.reduceAdd, Nat.reduceSub, Nat.reduceMul, Nat.reduceMod, Nat.reduceDiv, Int.reduceLE, Int.reduceLT, Int.reduceToNat, Int.reduceAdd, Int.reduceSub, Int.reduceMul, Int.reduceEq, Int.reduceNeg, BitVec.reduceOfInt, BitVec.reduceToNat, BitVec.reduceEq, BitVec.reduceNe, BitVec.reduceLT, reduceCtorEq, List.forall_mem_nil, Tryd.ntmps40, Tryd.results40, hm.1, hm16, hb2, List.take_of_length_le]
  refine goCallD_pure0 (hr) ?_
  simp only [go_sem, ↓reduceIte, Nat.reduceEqDiff, Nat.reduceLT, Nat.reduceLeDiff, Nat.reduceAdd, Nat.reduceSub, Nat.reduceMul, Nat.reduceMod, Nat.reduceDiv, Int.reduceLE, Int.reduceLT, Int.reduceToNat, Int.reduceAdd, Int.reduceSub, Int.reduceMul, Int.reduceEq, Int.reduceNeg, BitVec.reduceOfInt, BitVec.reduceToNat, BitVec.reduceEq, BitVec.reduceNe, BitVec.reduceLT, reduceCtorEq, List.forall_mem_nil, hb]
  refine ⟨by show 250 + 5 ≤ 4611686018427387904; omega, ?_⟩
  refine goCallD_pure0 (hp) ?_
  simp only [go_sem, ↓reduceIte, Nat.reduceEqDiff, Nat.reduceLT, Nat.reduceLeDiff, Nat.reduceAdd, Nat.reduceSub, Nat.reduceMul, Nat.reduceMod, Nat.reduceDiv, Int.reduceLE, Int.reduceLT, Int.reduceToNat, Int.reduceAdd, Int.reduceSub, Int.reduceMul, Int.reduceEq, Int.reduceNeg, BitVec.reduceOfInt, BitVec.reduceToNat, BitVec.reduceEq, BitVec.reduceNe, BitVec.reduceLT, reduceCtorEq, List.forall_mem_nil, hl, hm16, splice_all, List.take_of_length_le]
  kernel_rfl
end Go.Vm
end
section
namespace Go.Vm
open Go.Proofs
set_option maxRecDepth 20000
def clampC (s : List (BitVec 8)) : List (BitVec 8) := (s.set 0 (s.getD 0 0 &&& 248#8)).set 31 ((s.getD 31 0 &&& 127#8) ||| 64#8)
theorem Clamp_spec (s : List (BitVec 8)) : PureFn Tryd.prog 28 [.str s] (.tup (if s.length = 32 then [.str (clampC s), .i64 0] else [.str [], .i64 1])) := by
  by_cases h : s.length = 32
  · rw [if_pos h]
    refine pure_of_vc (by kernel_rfl) (fn := Tryd.f28) (by kernel_rfl) Tryd.func28 rfl (by show 1 ≤ 24; decide) (by simp [lows, V.low]) (by simp [lows, V.low, lows_ite, low_ite]) (go_start ?_)
    simp only [go_sem, ↓reduceIte, Nat.reduceEqDiff, Nat.reduceLT, Nat.reduceLeDiff, Nat.reduceAdd, Nat.reduceSub, Nat.reduceMul, Nat.reduceMod, Nat.reduceDiv, Int.reduceLE, Int.reduceLT, Int.reduceToNat, Int.reduceAdd, Int.reduceSub, Int.reduceMul, Int.reduceEq, Int.reduceNeg, BitVec.reduceOfInt, BitVec.reduceToNat, BitVec.reduceEq, BitVec.reduceNe, BitVec.reduceLT, reduceCtorEq, List.forall_mem_nil, Tryd.ntmps28, Tryd.results28, h, getD_u8]
    rw [List.take_of_length_le (by simp [h])]
    have e : (s.set 0 (s.getD 0 0 &&& 248#8)).getD 31 0 = s.getD 31 0 := by simp [List.getD_eq_getElem?_getD]
    rw [e]; rfl
  · rw [if_neg h]
    have h' : ¬ (s.length : Int) = 32 := by omega
    refine pure_of_vc (by kernel_rfl) (fn := Tryd.f28) (by kernel_rfl) Tryd.func28 rfl (by show 1 ≤ 24; decide) (by simp [lows, V.low]) (by simp [lows, V.low, lows_ite, low_ite]) (go_start ?_)
    simp only [go_sem, ↓reduceIte, Nat.reduceEqDiff, Nat.reduceLT, Nat.reduceLeDiff, Nat.reduceAdd, Nat.reduceSub, Nat.reduceMul, Nat.reduceMod, Nat.reduceDiv, Int.reduceLE, Int.reduceLT, Int.reduceToNat, Int.reduceAdd, Int.reduceSub, Int.reduceMul, Int.reduceEq, Int.reduceNeg, BitVec.reduceOfInt, BitVec.reduceToNat, BitVec.reduceEq, BitVec.reduceNe, BitVec.reduceLT, reduceCtorEq, List.forall_mem_nil, Tryd.ntmps28, Tryd.results28, h']
def rclamp (s : List (BitVec 8)) : List (BitVec 8) := BitVec.ofInt 8 (w64 (w64 (((s.getD 0 0).toNat : Int).tdiv 8) * 8)) :: ((s.take 31).drop 1 ++ [BitVec.ofInt 8 (w64 (((s.getD 31 0).toNat : Int).tmod 64 + 64))])
theorem RClamp_spec (s : List (BitVec 8)) : PureFn Tryd.prog 36 [.str s] (.tup (if s.length = 32 then [.str (rclamp s), .i64 0] else [.str [], .i64 1])) := by
  by_cases h : s.length = 32
  · rw [if_pos h]
    refine pure_of_vc (by kernel_rfl) (fn := Tryd.f36) (by kernel_rfl) Tryd.func36 rfl (by show 1 ≤ 23; decide) (by simp [lows, V.low]) (by simp [lows, V.low, lows_ite, low_ite]) (go_start ?_)
    simp only [go_sem, ↓reduceIte, Nat.reduceEqDiff, Nat.reduceLT, Nat.reduceLeDiff, Nat.reduceAdd, Nat.reduceSub, Nat.reduceMul, Nat.reduceMod, Nat.reduceDiv, Int.reduceLE, Int.reduceLT, Int.reduceToNat, Int.reduceAdd, Int.reduceSub, Int.reduceMul, Int.reduceEq, Int.reduceNeg, BitVec.reduceOfInt, BitVec.reduceToNat, BitVec.reduceEq, BitVec.reduceNe, BitVec.reduceLT, reduceCtorEq, List.forall_mem_nil, Tryd.ntmps36, Tryd.results36, h, getD_u8]
    refine goCallD_pure0 (chr_spec _) ?_
    simp only [go_sem, ↓reduceIte, Nat.reduceEqDiff, Nat.reduceLT, Nat.reduceLeDiff, Nat.reduceAdd, Nat.reduceSub, Nat.reduceMul, Nat.reduceMod, Nat.reduceDiv, Int.reduceLE, Int.reduceLT, Int.reduceToNat, Int.reduceAdd, Int.reduceSub, Int.reduceMul, Int.reduceEq, Int.reduceNeg, BitVec.reduceOfInt, BitVec.reduceToNat, BitVec.reduceEq, BitVec.reduceNe, BitVec.reduceLT, reduceCtorEq, List.forall_mem_nil, h, getD_u8]
    refine ⟨by omega, goCallD_pure0 (chr_spec _) ?_⟩
    simp only [go_sem, ↓reduceIte, Nat.reduceEqDiff, Nat.reduceLT, Nat.reduceLeDiff, Nat.reduceAdd, Nat.reduceSub, Nat.reduceMul, Nat.reduceMod, Nat.reduceDiv, Int.reduceLE, Int.reduceLT, Int.reduceToNat, Int.reduceAdd, Int.reduceSub, Int.reduceMul, Int.reduceEq, Int.reduceNeg, BitVec.reduceOfInt, BitVec.reduceToNat, BitVec.reduceEq, BitVec.reduceNe, BitVec.reduceLT, reduceCtorEq, List.forall_mem_nil, h, getD_u8]
    exact ⟨by omega, by kernel_rfl, rfl⟩
  · rw [if_neg h]
    have h' : ¬ (s.length : Int) = 32 := by omega
    refine pure_of_vc (by kernel_rfl) (fn := Tryd.f36) (by kernel_rfl) Tryd.func36 rfl (by show 1 ≤ 23; decide) (by simp [lows, V.low]) (by simp [lows, V.low, lows_ite, low_ite]) (go_start ?_)
    simp only [go_sem, ↓reduceIte, Nat.reduceEqDiff, Nat.reduceLT, Nat.reduceLeDiff, Nat.reduceAdd, Nat.reduceSub, Nat.reduceMul, Nat.reduceMod, Nat.reduceDiv, Int.reduceLE, Int.reduceLT, Int.reduceToNat, Int.reduceAdd, Int.reduceSub, Int.reduceMul, Int.reduceEq, Int.reduceNeg, BitVec.reduceOfInt, BitVec.reduceToNat, BitVec.reduceEq, BitVec.reduceNe, BitVec.reduceLT, reduceCtorEq, List.forall_mem_nil, Tryd.ntmps36, Tryd.results36, h']
theorem low_byte (x : BitVec 8) : x &&& 248#8 = BitVec.ofInt 8 (w64 (w64 ((x.toNat : Int).tdiv 8) * 8)) := by
  have h : ∀ y : Nat, nall (fun y => Nat.beq (BitVec.ofNat 8 y &&& 248#8).toNat (BitVec.ofInt 8 (w64 (w64 (((BitVec.ofNat 8 y).toNat : Int).tdiv 8) * 8))).toNat) 256 = true := fun _ => by decide +kernel
  have := nall_get (h 0) x.toNat x.isLt
  have e : BitVec.ofNat 8 x.toNat = x := by simp
  simp only [e] at this
  exact BitVec.eq_of_toNat_eq (Nat.eq_of_beq_eq_true this)
theorem high_byte (x : BitVec 8) : (x &&& 127#8) ||| 64#8 = BitVec.ofInt 8 (w64 ((x.toNat : Int).tmod 64 + 64)) := by
  have h : ∀ y : Nat, nall (fun y => Nat.beq ((BitVec.ofNat 8 y &&& 127#8) ||| 64#8).toNat (BitVec.ofInt 8 (w64 (((BitVec.ofNat 8 y).toNat : Int).tmod 64 + 64))).toNat) 256 = true := fun _ => by decide +kernel
  have := nall_get (h 0) x.toNat x.isLt
  have e : BitVec.ofNat 8 x.toNat = x := by simp
  simp only [e] at this
  exact BitVec.eq_of_toNat_eq (Nat.eq_of_beq_eq_true this)
theorem clamp_eq (s : List (BitVec 8)) (h : s.length = 32) : clampC s = rclamp s := by
  unfold clampC rclamp
  rw [← low_byte, ← high_byte]
  apply List.ext_getElem
  · simp [h]
  · intro i h1 h2
    have hi : i < 32 := by simpa [h] using h1
    rw [List.getElem_set]
    by_cases e : 31 = i
    · subst e
      simp [h]
    · rw [if_neg e, List.getElem_set]
      by_cases e0 : 0 = i
      · subst e0; simp
      · rw [if_neg e0]
        obtain ⟨j, rfl⟩ : ∃ j, i = j + 1 := ⟨i - 1, by omega⟩
        rw [List.getElem_cons_succ, List.getElem_append_left (by simp [h]; omega), List.getElem_drop, List.getElem_take]
        congr 1; omega

/-! Points. -/
abbrev Pt := List Int × List Int
def okP (p : Pt) : Prop := okI p.1 ∧ okI p.2
theorem ok_plus {a b : List Int} {t : Int} (ha : okI a) (hb : okI b) (ht : -1 ≤ t ∧ t ≤ 200000) : okI (plusI a b t) := (plusI_val a b t ha hb ht).1
theorem ok_times {a b : List Int} (ha : okI a) (hb : okI b) : okI (timesI a b) := (timesI_val a b ha hb).1
def pS (p : Pt) : List Int := plusI p.1 p.2 1
def pD (p : Pt) : List Int := plusI p.1 p.2 (-1)
def dA (p : Pt) : List Int := timesI (pS p) (pS p)
def dB (p : Pt) : List Int := timesI (pD p) (pD p)
def dE (p : Pt) : List Int := plusI (dA p) (dB p) (-1)
def dF (p : Pt) : List Int := plusI (dA p) (dE p) 121665
def dblI (p : Pt) : Pt := (timesI (dA p) (dB p), timesI (dE p) (dF p))
def addA (p q : Pt) : List Int := timesI (pD p) (pS q)
def addB (p q : Pt) : List Int := timesI (pS p) (pD q)
def aC (p q : Pt) : List Int := plusI (addA p q) (addB p q) 1
def aD (p q : Pt) : List Int := plusI (addA p q) (addB p q) (-1)
def aDD (p q : Pt) : List Int := timesI (aD p q) (aD p q)
def addPt (p q : Pt) (x : List Int) : Pt := (timesI (aC p q) (aC p q), timesI x (aDD p q))
theorem okS {p : Pt} (h : okP p) : okI (pS p) := ok_plus h.1 h.2 (by decide)
theorem okD {p : Pt} (h : okP p) : okI (pD p) := ok_plus h.1 h.2 (by decide)
theorem okdA {p : Pt} (h : okP p) : okI (dA p) := ok_times (okS h) (okS h)
theorem okdB {p : Pt} (h : okP p) : okI (dB p) := ok_times (okD h) (okD h)
theorem okdE {p : Pt} (h : okP p) : okI (dE p) := ok_plus (okdA h) (okdB h) (by decide)
theorem okdF {p : Pt} (h : okP p) : okI (dF p) := ok_plus (okdA h) (okdE h) (by decide)
theorem ok_dbl {p : Pt} (h : okP p) : okP (dblI p) := by
  dsimp only [okP, dblI]
  exact ⟨ok_times (okdA h) (okdB h), ok_times (okdE h) (okdF h)⟩
theorem ok_addA {p q : Pt} (hp : okP p) (hq : okP q) : okI (addA p q) := ok_times (okD hp) (okS hq)
theorem ok_addB {p q : Pt} (hp : okP p) (hq : okP q) : okI (addB p q) := ok_times (okS hp) (okD hq)
theorem ok_aC {p q : Pt} (hp : okP p) (hq : okP q) : okI (aC p q) := ok_plus (ok_addA hp hq) (ok_addB hp hq) (by decide)
theorem ok_aD {p q : Pt} (hp : okP p) (hq : okP q) : okI (aD p q) := ok_plus (ok_addA hp hq) (ok_addB hp hq) (by decide)
theorem ok_aDD {p q : Pt} (hp : okP p) (hq : okP q) : okI (aDD p q) := ok_times (ok_aD hp hq) (ok_aD hp hq)
theorem ok_add {p q : Pt} {x : List Int} (hp : okP p) (hq : okP q) (hx : okI x) : okP (addPt p q x) := by
  dsimp only [okP, addPt]
  exact ⟨ok_times (ok_aC hp hq) (ok_aC hp hq), ok_times hx (ok_aDD hp hq)⟩
def cellsP (p : Pt) : List V := (p.1 ++ p.2).map .i64
theorem cellsP_len (p : Pt) (h : okP p) : (p.1 ++ p.2).length = 32 := by rw [List.length_append, h.1.1, h.2.1]
theorem cellsP_1 (p : Pt) (h : okP p) : (p.1 ++ p.2).take 16 = p.1 := List.take_left' h.1.1
theorem cellsP_2 (p : Pt) (h : okP p) : (p.1 ++ p.2).drop 16 = p.2 := List.drop_left' h.1.1
theorem splice_gen (cs xs : List V) (o : Nat) (h : xs.length ≠ 1) : splice cs o xs = cs.take o ++ xs ++ cs.drop (o + xs.length) := by
  match xs, h with
  | [], _ => exact splice_nil cs o
  | [x], h => exact absurd rfl h
  | x :: y :: l, _ => exact splice_two cs o x y l
theorem build1_len (a : List Int) (ha : a.length = 16) : (splice [V.i64 0, V.i64 0, V.i64 0, V.i64 0, V.i64 0, V.i64 0, V.i64 0, V.i64 0, V.i64 0, V.i64 0, V.i64 0, V.i64 0, V.i64 0, V.i64 0, V.i64 0, V.i64 0, V.i64 0, V.i64 0, V.i64 0, V.i64 0, V.i64 0, V.i64 0, V.i64 0, V.i64 0, V.i64 0, V.i64 0, V.i64 0, V.i64 0, V.i64 0, V.i64 0, V.i64 0, V.i64 0] 0 (a.map .i64)).length = 32 := by
  rw [splice_gen _ _ _ (by rw [List.length_map, ha]; decide)]
  simp only [List.length_append, List.length_take, List.length_map, ha, List.length_drop]
  rfl
theorem build2 (a b : List Int) (ha : a.length = 16) (hb : b.length = 16) : splice (splice [V.i64 0, V.i64 0, V.i64 0, V.i64 0, V.i64 0, V.i64 0, V.i64 0, V.i64 0, V.i64 0, V.i64 0, V.i64 0, V.i64 0, V.i64 0, V.i64 0, V.i64 0, V.i64 0, V.i64 0, V.i64 0, V.i64 0, V.i64 0, V.i64 0, V.i64 0, V.i64 0, V.i64 0, V.i64 0, V.i64 0, V.i64 0, V.i64 0, V.i64 0, V.i64 0, V.i64 0, V.i64 0] 0 (a.map .i64)) 16 (b.map .i64) = (a ++ b).map .i64 := by
  rw [splice_gen _ (b.map .i64) _ (by rw [List.length_map, hb]; decide), splice_gen _ (a.map .i64) _ (by rw [List.length_map, ha]; decide)]
  rw [List.take_zero, List.nil_append, List.take_left' (by rw [List.length_map, ha]), List.drop_of_length_le (by simp [ha, hb]), List.append_nil, List.map_append]
theorem dbl_spec (p : Pt) (hp : okP p) : PureFn Tryd.prog 62 [.agg (cellsP p)] (.agg (cellsP (dblI p))) := by
  have hm : min 16 16 = 16 := rfl
  have hm2 : min 32 32 = 32 := rfl
  have s1 := plusI_spec p.1 p.2 1 hp.1 hp.2 (by decide)
  have s2 := plusI_spec p.1 p.2 (-1) hp.1 hp.2 (by decide)
  rw [show plusI p.1 p.2 1 = pS p from rfl] at s1
  rw [show plusI p.1 p.2 (-1) = pD p from rfl] at s2
  have s3 := timesI_spec _ _ (okS hp) (okS hp)
  have s4 := timesI_spec _ _ (okD hp) (okD hp)
  rw [show timesI (pS p) (pS p) = dA p from rfl] at s3
  rw [show timesI (pD p) (pD p) = dB p from rfl] at s4
  have s5 := plusI_spec _ _ (-1) (okdA hp) (okdB hp) (by decide)
  rw [show plusI (dA p) (dB p) (-1) = dE p from rfl] at s5
  have s6 := timesI_spec _ _ (okdA hp) (okdB hp)
  have s7 := plusI_spec _ _ 121665 (okdA hp) (okdE hp) (by decide)
  rw [show plusI (dA p) (dE p) 121665 = dF p from rfl] at s7
  have s8 := timesI_spec _ _ (okdE hp) (okdF hp)
  have l1 := (okS hp).1
  have l2 := (okD hp).1
  have l3 := (okdA hp).1
  have l4 := (okdB hp).1
  have l5 := (okdE hp).1
  have l6 := (ok_times (okdA hp) (okdB hp)).1
  have l8 := (ok_times (okdE hp) (okdF hp)).1
  have c0 := cellsP_len p hp
  have c1 := cellsP_1 p hp
  have c2 := cellsP_2 p hp
  unfold cellsP dblI
  simp only
  generalize timesI (dE p) (dF p) = r8 at *
  generalize timesI (dA p) (dB p) = r6 at *
  generalize dF p = r7 at *
  generalize dE p = r5 at *
  generalize dA p = r3 at *
  generalize dB p = r4 at *
  generalize pS p = r1 at *
  generalize pD p = r2 at *
  generalize hw : p.1 ++ p.2 = w at *
  refine pure_of_vc (by kernel_rfl) (fn := Tryd.f62) (by kernel_rfl) Tryd.func62 rfl (by show 1 ≤ 34; decide) (by simp [lows_i64, lows_append, lows, V.low]) (by simp [lows_i64, lows_append, lows, V.low, lows_ite, low_ite]) (go_start ?_)
  simp only [go_sem, ↓reduceIte, Nat.reduceEqDiff, Nat.reduceLT, Nat.reduceLeDiff, Nat.reduceAdd, Nat.reduceSub, Nat.reduceMul, Nat.reduceMod, Nat.reduceDiv, Int.reduceLE, Int.reduceLT, Int.reduceToNat, Int.reduceAdd, Int.reduceSub, Int.reduceMul, Int.reduceEq, Int.reduceNeg, BitVec.reduceOfInt, BitVec.reduceToNat, BitVec.reduceEq, BitVec.reduceNe, BitVec.reduceLT, reduceCtorEq, List.forall_mem_nil, Tryd.ntmps62, Tryd.results62, hp.1.1, hp.2.1, c0, c1, c2, hm, hm2, List.take_of_length_le]
  refine goCallD_pure0 (s1) ?_
  simp only [go_sem, ↓reduceIte, Nat.reduceEqDiff, Nat.reduceLT, Nat.reduceLeDiff, Nat.reduceAdd, Nat.reduceSub, Nat.reduceMul, Nat.reduceMod, Nat.reduceDiv, Int.reduceLE, Int.reduceLT, Int.reduceToNat, Int.reduceAdd, Int.reduceSub, Int.reduceMul, Int.reduceEq, Int.reduceNeg, BitVec.reduceOfInt, BitVec.reduceToNat, BitVec.reduceEq, BitVec.reduceNe, BitVec.reduceLT, reduceCtorEq, List.forall_mem_nil, c0, c1, c2, hp.1.1, hp.2.1, hm, l1, l2, l3, l4, l5, l6, l8, splice_all, List.take_of_length_le]
  refine goCallD_pure0 (s2) ?_
  simp only [go_sem, ↓reduceIte, Nat.reduceEqDiff, Nat.reduceLT, Nat.reduceLeDiff, Nat.reduceAdd, Nat.reduceSub, Nat.reduceMul, Nat.reduceMod, Nat.reduceDiv, Int.reduceLE, Int.reduceLT, Int.reduceToNat, Int.reduceAdd, Int.reduceSub, Int.reduceMul, Int.reduceEq, Int.reduceNeg, BitVec.reduceOfInt, BitVec.reduceToNat, BitVec.reduceEq, BitVec.reduceNe, BitVec.reduceLT, reduceCtorEq, List.forall_mem_nil, c0, c1, c2, hp.1.1, hp.2.1, hm, l1, l2, l3, l4, l5, l6, l8, splice_all, List.take_of_length_le]
  refine ⟨by kernel_rfl, ?_⟩
  refine goCallD_pure0 (s3) ?_
  simp only [go_sem, ↓reduceIte, Nat.reduceEqDiff, Nat.reduceLT, Nat.reduceLeDiff, Nat.reduceAdd, Nat.reduceSub, Nat.reduceMul, Nat.reduceMod, Nat.reduceDiv, Int.reduceLE, Int.reduceLT, Int.reduceToNat, Int.reduceAdd, Int.reduceSub, Int.reduceMul, Int.reduceEq, Int.reduceNeg, BitVec.reduceOfInt, BitVec.reduceToNat, BitVec.reduceEq, BitVec.reduceNe, BitVec.reduceLT, reduceCtorEq, List.forall_mem_nil, c0, c1, c2, hp.1.1, hp.2.1, hm, l1, l2, l3, l4, l5, l6, l8, splice_all, List.take_of_length_le]
  refine goCallD_pure0 (s4) ?_
  simp only [go_sem, ↓reduceIte, Nat.reduceEqDiff, Nat.reduceLT, Nat.reduceLeDiff, Nat.reduceAdd, Nat.reduceSub, Nat.reduceMul, Nat.reduceMod, Nat.reduceDiv, Int.reduceLE, Int.reduceLT, Int.reduceToNat, Int.reduceAdd, Int.reduceSub, Int.reduceMul, Int.reduceEq, Int.reduceNeg, BitVec.reduceOfInt, BitVec.reduceToNat, BitVec.reduceEq, BitVec.reduceNe, BitVec.reduceLT, reduceCtorEq, List.forall_mem_nil, c0, c1, c2, hp.1.1, hp.2.1, hm, l1, l2, l3, l4, l5, l6, l8, splice_all, List.take_of_length_le]
  refine ⟨by kernel_rfl, ?_⟩
  refine goCall_pure0 (s5) ?_
  simp only [go_sem, ↓reduceIte, Nat.reduceEqDiff, Nat.reduceLT, Nat.reduceLeDiff, Nat.reduceAdd, Nat.reduceSub, Nat.reduceMul, Nat.reduceMod, Nat.reduceDiv, Int.reduceLE, Int.reduceLT, Int.reduceToNat, Int.reduceAdd, Int.reduceSub, Int.reduceMul, Int.reduceEq, Int.reduceNeg, BitVec.reduceOfInt, BitVec.reduceToNat, BitVec.reduceEq, BitVec.reduceNe, BitVec.reduceLT, reduceCtorEq, List.forall_mem_nil, c0, c1, c2, hp.1.1, hp.2.1, hm, l1, l2, l3, l4, l5, l6, l8, splice_all, List.take_of_length_le]
  refine goCallD_pure0 (s6) ?_
  simp only [go_sem, ↓reduceIte, Nat.reduceEqDiff, Nat.reduceLT, Nat.reduceLeDiff, Nat.reduceAdd, Nat.reduceSub, Nat.reduceMul, Nat.reduceMod, Nat.reduceDiv, Int.reduceLE, Int.reduceLT, Int.reduceToNat, Int.reduceAdd, Int.reduceSub, Int.reduceMul, Int.reduceEq, Int.reduceNeg, BitVec.reduceOfInt, BitVec.reduceToNat, BitVec.reduceEq, BitVec.reduceNe, BitVec.reduceLT, reduceCtorEq, List.forall_mem_nil, c0, c1, c2, hp.1.1, hp.2.1, hm, l1, l2, l3, l4, l5, l6, l8, splice_all, List.take_of_length_le]
  refine goCallD_pure0 (s7) ?_
  simp only [go_sem, ↓reduceIte, Nat.reduceEqDiff, Nat.reduceLT, Nat.reduceLeDiff, Nat.reduceAdd, Nat.reduceSub, Nat.reduceMul, Nat.reduceMod, Nat.reduceDiv, Int.reduceLE, Int.reduceLT, Int.reduceToNat, Int.reduceAdd, Int.reduceSub, Int.reduceMul, Int.reduceEq, Int.reduceNeg, BitVec.reduceOfInt, BitVec.reduceToNat, BitVec.reduceEq, BitVec.reduceNe, BitVec.reduceLT, reduceCtorEq, List.forall_mem_nil, c0, c1, c2, hp.1.1, hp.2.1, hm, l1, l2, l3, l4, l5, l6, l8, splice_all, List.take_of_length_le]
  refine goCallD_pure0 (s8) ?_
  simp only [go_sem, ↓reduceIte, Nat.reduceEqDiff, Nat.reduceLT, Nat.reduceLeDiff, Nat.reduceAdd, Nat.reduceSub, Nat.reduceMul, Nat.reduceMod, Nat.reduceDiv, Int.reduceLE, Int.reduceLT, Int.reduceToNat, Int.reduceAdd, Int.reduceSub, Int.reduceMul, Int.reduceEq, Int.reduceNeg, BitVec.reduceOfInt, BitVec.reduceToNat, BitVec.reduceEq, BitVec.reduceNe, BitVec.reduceLT, reduceCtorEq, List.forall_mem_nil, c0, c1, c2, hp.1.1, hp.2.1, hm, hm2, l1, l2, l3, l4, l5, l6, l8, splice_all, List.take_of_length_le, build1_len, build2]
  kernel_rfl
theorem add_spec (p q : Pt) (x : List Int) (hp : okP p) (hq : okP q) (hx : okI x) : PureFn Tryd.prog 63 [.agg (cellsP p), .agg (cellsP q), .agg (x.map .i64)] (.agg (cellsP (addPt p q x))) := by
  have hm : min 16 16 = 16 := rfl
  have hm2 : min 32 32 = 32 := rfl
  have s1 := plusI_spec p.1 p.2 (-1) hp.1 hp.2 (by decide)
  rw [show plusI p.1 p.2 (-1) = pD p from rfl] at s1
  have s2 := plusI_spec q.1 q.2 1 hq.1 hq.2 (by decide)
  rw [show plusI q.1 q.2 1 = pS q from rfl] at s2
  have s3 := timesI_spec _ _ (okD hp) (okS hq)
  rw [show timesI (pD p) (pS q) = addA p q from rfl] at s3
  have s4 := plusI_spec p.1 p.2 1 hp.1 hp.2 (by decide)
  rw [show plusI p.1 p.2 1 = pS p from rfl] at s4
  have s5 := plusI_spec q.1 q.2 (-1) hq.1 hq.2 (by decide)
  rw [show plusI q.1 q.2 (-1) = pD q from rfl] at s5
  have s6 := timesI_spec _ _ (okS hp) (okD hq)
  rw [show timesI (pS p) (pD q) = addB p q from rfl] at s6
  have s7 := plusI_spec _ _ 1 (ok_addA hp hq) (ok_addB hp hq) (by decide)
  rw [show plusI (addA p q) (addB p q) 1 = aC p q from rfl] at s7
  have s8 := plusI_spec _ _ (-1) (ok_addA hp hq) (ok_addB hp hq) (by decide)
  rw [show plusI (addA p q) (addB p q) (-1) = aD p q from rfl] at s8
  have s9 := timesI_spec _ _ (ok_aC hp hq) (ok_aC hp hq)
  have s10 := timesI_spec _ _ (ok_aD hp hq) (ok_aD hp hq)
  rw [show timesI (aD p q) (aD p q) = aDD p q from rfl] at s10
  have s11 := timesI_spec _ _ hx (ok_aDD hp hq)
  have l1 := (okD hp).1
  have l2 := (okS hq).1
  have l3 := (ok_addA hp hq).1
  have l4 := (okS hp).1
  have l5 := (okD hq).1
  have l6 := (ok_addB hp hq).1
  have l7 := (ok_aC hp hq).1
  have l8 := (ok_aD hp hq).1
  have l9 := (ok_times (ok_aC hp hq) (ok_aC hp hq)).1
  have l10 := (ok_aDD hp hq).1
  have l11 := (ok_times hx (ok_aDD hp hq)).1
  have c0 := cellsP_len p hp
  have c1 := cellsP_1 p hp
  have c2 := cellsP_2 p hp
  have d0 := cellsP_len q hq
  have d1 := cellsP_1 q hq
  have d2 := cellsP_2 q hq
  unfold cellsP addPt
  simp only
  generalize timesI x (aDD p q) = r11 at *
  generalize timesI (aC p q) (aC p q) = r9 at *
  generalize aDD p q = r10 at *
  generalize aD p q = r8 at *
  generalize aC p q = r7 at *
  generalize addB p q = r6 at *
  generalize addA p q = r3 at *
  generalize pD p = r1 at *
  generalize pS q = r2 at *
  generalize pS p = r4 at *
  generalize pD q = r5 at *
  generalize hw : p.1 ++ p.2 = w at *
  generalize hw2 : q.1 ++ q.2 = w2 at *
  refine pure_of_vc (by kernel_rfl) (fn := Tryd.f63) (by kernel_rfl) Tryd.func63 rfl (by show 3 ≤ 48; decide) (by simp [lows_i64, lows_append, lows, V.low]) (by simp [lows_i64, lows_append, lows, V.low, lows_ite, low_ite]) (go_start ?_)
  simp only [go_sem, ↓reduceIte, Nat.reduceEqDiff, Nat.reduceLT, Nat.reduceLeDiff, Nat.reduceAdd, Nat.reduceSub, Nat.reduceMul, Nat.reduceMod, Nat.reduceDiv, Int.reduceLE, Int.reduceLT, Int.reduceToNat, Int.reduceAdd, Int.reduceSub, Int.reduceMul, Int.reduceEq, Int.reduceNeg, BitVec.reduceOfInt, BitVec.reduceToNat, BitVec.reduceEq, BitVec.reduceNe, BitVec.reduceLT, reduceCtorEq, List.forall_mem_nil, Tryd.ntmps63, Tryd.results63, hp.1.1, hp.2.1, hq.1.1, hq.2.1, c0, c1, c2, d0, d1, d2, hx.1, hm, hm2, List.take_of_length_le]
  refine goCallD_pure0 (s1) ?_
  simp only [go_sem, ↓reduceIte, Nat.reduceEqDiff, Nat.reduceLT, Nat.reduceLeDiff, Nat.reduceAdd, Nat.reduceSub, Nat.reduceMul, Nat.reduceMod, Nat.reduceDiv, Int.reduceLE, Int.reduceLT, Int.reduceToNat, Int.reduceAdd, Int.reduceSub, Int.reduceMul, Int.reduceEq, Int.reduceNeg, BitVec.reduceOfInt, BitVec.reduceToNat, BitVec.reduceEq, BitVec.reduceNe, BitVec.reduceLT, reduceCtorEq, List.forall_mem_nil, c0, c1, c2, d0, d1, d2, hp.1.1, hp.2.1, hq.1.1, hq.2.1, hx.1, hm, hm2, l1, l2, l3, l4, l5, l6, l7, l8, l9, l10, l11, splice_all, List.take_of_length_le, build1_len, build2]
  refine goCallD_pure0 (s2) ?_
  simp only [go_sem, ↓reduceIte, Nat.reduceEqDiff, Nat.reduceLT, Nat.reduceLeDiff, Nat.reduceAdd, Nat.reduceSub, Nat.reduceMul, Nat.reduceMod, Nat.reduceDiv, Int.reduceLE, Int.reduceLT, Int.reduceToNat, Int.reduceAdd, Int.reduceSub, Int.reduceMul, Int.reduceEq, Int.reduceNeg, BitVec.reduceOfInt, BitVec.reduceToNat, BitVec.reduceEq, BitVec.reduceNe, BitVec.reduceLT, reduceCtorEq, List.forall_mem_nil, c0, c1, c2, d0, d1, d2, hp.1.1, hp.2.1, hq.1.1, hq.2.1, hx.1, hm, hm2, l1, l2, l3, l4, l5, l6, l7, l8, l9, l10, l11, splice_all, List.take_of_length_le, build1_len, build2]
  refine goCallD_pure0 (s3) ?_
  simp only [go_sem, ↓reduceIte, Nat.reduceEqDiff, Nat.reduceLT, Nat.reduceLeDiff, Nat.reduceAdd, Nat.reduceSub, Nat.reduceMul, Nat.reduceMod, Nat.reduceDiv, Int.reduceLE, Int.reduceLT, Int.reduceToNat, Int.reduceAdd, Int.reduceSub, Int.reduceMul, Int.reduceEq, Int.reduceNeg, BitVec.reduceOfInt, BitVec.reduceToNat, BitVec.reduceEq, BitVec.reduceNe, BitVec.reduceLT, reduceCtorEq, List.forall_mem_nil, c0, c1, c2, d0, d1, d2, hp.1.1, hp.2.1, hq.1.1, hq.2.1, hx.1, hm, hm2, l1, l2, l3, l4, l5, l6, l7, l8, l9, l10, l11, splice_all, List.take_of_length_le, build1_len, build2]
  refine ⟨by kernel_rfl, ?_⟩
  refine goCallD_pure0 (s4) ?_
  simp only [go_sem, ↓reduceIte, Nat.reduceEqDiff, Nat.reduceLT, Nat.reduceLeDiff, Nat.reduceAdd, Nat.reduceSub, Nat.reduceMul, Nat.reduceMod, Nat.reduceDiv, Int.reduceLE, Int.reduceLT, Int.reduceToNat, Int.reduceAdd, Int.reduceSub, Int.reduceMul, Int.reduceEq, Int.reduceNeg, BitVec.reduceOfInt, BitVec.reduceToNat, BitVec.reduceEq, BitVec.reduceNe, BitVec.reduceLT, reduceCtorEq, List.forall_mem_nil, c0, c1, c2, d0, d1, d2, hp.1.1, hp.2.1, hq.1.1, hq.2.1, hx.1, hm, hm2, l1, l2, l3, l4, l5, l6, l7, l8, l9, l10, l11, splice_all, List.take_of_length_le, build1_len, build2]
  refine goCallD_pure0 (s5) ?_
  simp only [go_sem, ↓reduceIte, Nat.reduceEqDiff, Nat.reduceLT, Nat.reduceLeDiff, Nat.reduceAdd, Nat.reduceSub, Nat.reduceMul, Nat.reduceMod, Nat.reduceDiv, Int.reduceLE, Int.reduceLT, Int.reduceToNat, Int.reduceAdd, Int.reduceSub, Int.reduceMul, Int.reduceEq, Int.reduceNeg, BitVec.reduceOfInt, BitVec.reduceToNat, BitVec.reduceEq, BitVec.reduceNe, BitVec.reduceLT, reduceCtorEq, List.forall_mem_nil, c0, c1, c2, d0, d1, d2, hp.1.1, hp.2.1, hq.1.1, hq.2.1, hx.1, hm, hm2, l1, l2, l3, l4, l5, l6, l7, l8, l9, l10, l11, splice_all, List.take_of_length_le, build1_len, build2]
  refine goCallD_pure0 (s6) ?_
  simp only [go_sem, ↓reduceIte, Nat.reduceEqDiff, Nat.reduceLT, Nat.reduceLeDiff, Nat.reduceAdd, Nat.reduceSub, Nat.reduceMul, Nat.reduceMod, Nat.reduceDiv, Int.reduceLE, Int.reduceLT, Int.reduceToNat, Int.reduceAdd, Int.reduceSub, Int.reduceMul, Int.reduceEq, Int.reduceNeg, BitVec.reduceOfInt, BitVec.reduceToNat, BitVec.reduceEq, BitVec.reduceNe, BitVec.reduceLT, reduceCtorEq, List.forall_mem_nil, c0, c1, c2, d0, d1, d2, hp.1.1, hp.2.1, hq.1.1, hq.2.1, hx.1, hm, hm2, l1, l2, l3, l4, l5, l6, l7, l8, l9, l10, l11, splice_all, List.take_of_length_le, build1_len, build2]
  refine ⟨by kernel_rfl, ?_⟩
  refine goCallD_pure0 (s7) ?_
  simp only [go_sem, ↓reduceIte, Nat.reduceEqDiff, Nat.reduceLT, Nat.reduceLeDiff, Nat.reduceAdd, Nat.reduceSub, Nat.reduceMul, Nat.reduceMod, Nat.reduceDiv, Int.reduceLE, Int.reduceLT, Int.reduceToNat, Int.reduceAdd, Int.reduceSub, Int.reduceMul, Int.reduceEq, Int.reduceNeg, BitVec.reduceOfInt, BitVec.reduceToNat, BitVec.reduceEq, BitVec.reduceNe, BitVec.reduceLT, reduceCtorEq, List.forall_mem_nil, c0, c1, c2, d0, d1, d2, hp.1.1, hp.2.1, hq.1.1, hq.2.1, hx.1, hm, hm2, l1, l2, l3, l4, l5, l6, l7, l8, l9, l10, l11, splice_all, List.take_of_length_le, build1_len, build2]
  refine goCallD_pure0 (s8) ?_
  simp only [go_sem, ↓reduceIte, Nat.reduceEqDiff, Nat.reduceLT, Nat.reduceLeDiff, Nat.reduceAdd, Nat.reduceSub, Nat.reduceMul, Nat.reduceMod, Nat.reduceDiv, Int.reduceLE, Int.reduceLT, Int.reduceToNat, Int.reduceAdd, Int.reduceSub, Int.reduceMul, Int.reduceEq, Int.reduceNeg, BitVec.reduceOfInt, BitVec.reduceToNat, BitVec.reduceEq, BitVec.reduceNe, BitVec.reduceLT, reduceCtorEq, List.forall_mem_nil, c0, c1, c2, d0, d1, d2, hp.1.1, hp.2.1, hq.1.1, hq.2.1, hx.1, hm, hm2, l1, l2, l3, l4, l5, l6, l7, l8, l9, l10, l11, splice_all, List.take_of_length_le, build1_len, build2]
  refine ⟨by kernel_rfl, ?_⟩
  refine goCallD_pure0 (s9) ?_
  simp only [go_sem, ↓reduceIte, Nat.reduceEqDiff, Nat.reduceLT, Nat.reduceLeDiff, Nat.reduceAdd, Nat.reduceSub, Nat.reduceMul, Nat.reduceMod, Nat.reduceDiv, Int.reduceLE, Int.reduceLT, Int.reduceToNat, Int.reduceAdd, Int.reduceSub, Int.reduceMul, Int.reduceEq, Int.reduceNeg, BitVec.reduceOfInt, BitVec.reduceToNat, BitVec.reduceEq, BitVec.reduceNe, BitVec.reduceLT, reduceCtorEq, List.forall_mem_nil, c0, c1, c2, d0, d1, d2, hp.1.1, hp.2.1, hq.1.1, hq.2.1, hx.1, hm, hm2, l1, l2, l3, l4, l5, l6, l7, l8, l9, l10, l11, splice_all, List.take_of_length_le, build1_len, build2]
  refine goCallD_pure0 (s10) ?_
  simp only [go_sem, ↓reduceIte, Nat.reduceEqDiff, Nat.reduceLT, Nat.reduceLeDiff, Nat.reduceAdd, Nat.reduceSub, Nat.reduceMul, Nat.reduceMod, Nat.reduceDiv, Int.reduceLE, Int.reduceLT, Int.reduceToNat, Int.reduceAdd, Int.reduceSub, Int.reduceMul, Int.reduceEq, Int.reduceNeg, BitVec.reduceOfInt, BitVec.reduceToNat, BitVec.reduceEq, BitVec.reduceNe, BitVec.reduceLT, reduceCtorEq, List.forall_mem_nil, c0, c1, c2, d0, d1, d2, hp.1.1, hp.2.1, hq.1.1, hq.2.1, hx.1, hm, hm2, l1, l2, l3, l4, l5, l6, l7, l8, l9, l10, l11, splice_all, List.take_of_length_le, build1_len, build2]
  refine goCallD_pure0 (s11) ?_
  simp only [go_sem, ↓reduceIte, Nat.reduceEqDiff, Nat.reduceLT, Nat.reduceLeDiff, Nat.reduceAdd, Nat.reduceSub, Nat.reduceMul, Nat.reduceMod, Nat.reduceDiv, Int.reduceLE, Int.reduceLT, Int.reduceToNat, Int.reduceAdd, Int.reduceSub, Int.reduceMul, Int.reduceEq, Int.reduceNeg, BitVec.reduceOfInt, BitVec.reduceToNat, BitVec.reduceEq, BitVec.reduceNe, BitVec.reduceLT, reduceCtorEq, List.forall_mem_nil, c0, c1, c2, d0, d1, d2, hp.1.1, hp.2.1, hq.1.1, hq.2.1, hx.1, hm, hm2, l1, l2, l3, l4, l5, l6, l7, l8, l9, l10, l11, splice_all, List.take_of_length_le, build1_len, build2]
  kernel_rfl
end Go.Vm
end
section
namespace Go.Vm
open Go.Proofs
set_option maxRecDepth 20000
/-- What climb comes to behind c bits. -/
def climbI (x : List Int) (bits : List (BitVec 8)) : Nat → Pt × Pt
  | 0 => ((oneI, List.replicate 16 0), (x, oneI))
  | c + 1 => if bits.getD c 0 = 48#8 then (dblI (climbI x bits c).1, addPt (climbI x bits c).1 (climbI x bits c).2 x) else (addPt (climbI x bits c).1 (climbI x bits c).2 x, dblI (climbI x bits c).2)
theorem ok_zero : okI (List.replicate 16 0) := ⟨rfl, by decide⟩
theorem climb_ok (x : List Int) (bits : List (BitVec 8)) (hx : okI x) (c : Nat) : okP (climbI x bits c).1 ∧ okP (climbI x bits c).2 := by
  induction c with
  | zero => exact ⟨⟨ok_one, ok_zero⟩, ⟨hx, ok_one⟩⟩
  | succ c ih =>
    rw [climbI]
    split
    · exact ⟨ok_dbl ih.1, ok_add ih.1 ih.2 hx⟩
    · exact ⟨ok_add ih.1 ih.2 hx, ok_dbl ih.2⟩
theorem cellsP_one (p : Pt) : ∀ u ∈ cellsP p, u.one = true := by
  intro u hu
  unfold cellsP at hu
  obtain ⟨x, _, rfl⟩ := List.mem_map.1 hu
  rfl
theorem climb_spec (x : List Int) (bits : List (BitVec 8)) (hx : okI x) (hb : bits.length ≤ 1000) : ∀ c, c ≤ bits.length → PureFn Tryd.prog 37 [.str (bits.take c), .agg (x.map .i64)] (.tup [.agg (cellsP (climbI x bits c).1), .agg (cellsP (climbI x bits c).2)]) := by
  have hm : min 16 16 = 16 := rfl
  intro c
  induction c with
  | zero =>
    intro _
    have hol : oneI.length = 16 := rfl
    have b1 := build1_len x hx.1
    have b2 : splice (splice [V.i64 0, V.i64 0, V.i64 0, V.i64 0, V.i64 0, V.i64 0, V.i64 0, V.i64 0, V.i64 0, V.i64 0, V.i64 0, V.i64 0, V.i64 0, V.i64 0, V.i64 0, V.i64 0, V.i64 0, V.i64 0, V.i64 0, V.i64 0, V.i64 0, V.i64 0, V.i64 0, V.i64 0, V.i64 0, V.i64 0, V.i64 0, V.i64 0, V.i64 0, V.i64 0, V.i64 0, V.i64 0] 0 (x.map .i64)) 16 [V.i64 1, V.i64 0, V.i64 0, V.i64 0, V.i64 0, V.i64 0, V.i64 0, V.i64 0, V.i64 0, V.i64 0, V.i64 0, V.i64 0, V.i64 0, V.i64 0, V.i64 0, V.i64 0] = (x ++ oneI).map .i64 := build2 x oneI hx.1 rfl
    have b3 : (x ++ oneI).length = 32 := by rw [List.length_append, hx.1]; rfl
    have hm2 : min 32 32 = 32 := rfl
    refine pure_of_vc (by kernel_rfl) (fn := Tryd.f37) (by kernel_rfl) Tryd.func37 rfl (by show 2 ≤ 44; decide) (by simp [lows_i64, lows_append, cellsP, lows, V.low]) (by simp [lows_i64, lows_append, cellsP, lows, V.low, lows_ite, low_ite]) (go_start ?_)
    simp only [go_sem, ↓reduceIte, Nat.reduceEqDiff, Nat.reduceLT, Nat.reduceLeDiff, Nat.reduceAdd, Nat.reduceSub, Nat.reduceMul, Nat.reduceMod, Nat.reduceDiv, Int.reduceLE, Int.reduceLT, Int.reduceToNat, Int.reduceAdd, Int.reduceSub, Int.reduceMul, Int.reduceEq, Int.reduceNeg, BitVec.reduceOfInt, BitVec.reduceToNat, BitVec.reduceEq, BitVec.reduceNe, BitVec.reduceLT, reduceCtorEq, List.forall_mem_nil, Tryd.ntmps37, Tryd.results37, hx.1, hm, List.take_of_length_le, b1, b2, b3, hm2, splice_all]
    exact ⟨by kernel_rfl, rfl⟩
  | succ c ih =>
    intro hc
    have ih := ih (by omega)
    obtain ⟨o1, o2⟩ := climb_ok x bits hx c
    have hm2 : min 32 32 = 32 := rfl
    have hne : ¬ bits.take (c + 1) = [] := fun e => by
      have h2 := congrArg List.length e
      rw [List.length_take, List.length_nil] at h2
      omega
    have hl : (bits.take (c + 1)).length = c + 1 := by rw [List.length_take]; omega
    have htt : (bits.take (c + 1)).take c = bits.take c := by rw [List.take_take]; congr 1; omega
    have hgd : (bits.take (c + 1)).getD c 0 = bits.getD c 0 := by
      rw [List.getD_eq_getElem?_getD, List.getD_eq_getElem?_getD, List.getElem?_take_of_lt (by omega)]
    have e1 : w64 (((c + 1 : Nat) : Int) - 1) = (c : Int) := by rw [w64_of (by omega) (by omega)]; omega
    have g1 : (c : Int) ≤ ((c + 1 : Nat) : Int) := by omega
    have g2 : (c : Int) < ((c + 1 : Nat) : Int) := by omega
    have sd1 := dbl_spec _ o1
    have sd2 := dbl_spec _ o2
    have sa := add_spec _ _ x o1 o2 hx
    have k1 := ok_dbl o1
    have k2 := ok_dbl o2
    have k3 := ok_add o1 o2 hx
    have hcl : ∀ p : Pt, okP p → (cellsP p).length = 32 := fun p h => by unfold cellsP; rw [List.length_map]; exact cellsP_len p h
    have hlow : ∀ p : Pt, lows 0 (cellsP p) := fun p => by unfold cellsP; simp [lows_i64, lows_append]
    rw [climbI]
    generalize bits.take (c + 1) = B at *
    generalize (climbI x bits c).1 = p at *
    generalize (climbI x bits c).2 = q at *
    have lp := hcl p o1
    have lq := hcl q o2
    have ld1 := hcl _ k1
    have ld2 := hcl _ k2
    have la := hcl _ k3
    by_cases hb0 : bits.getD c 0 = 48#8
    · rw [if_pos hb0]
      refine pure_of_vc (by kernel_rfl) (fn := Tryd.f37) (by kernel_rfl) Tryd.func37 rfl (by show 2 ≤ 44; decide) (by simp [lows_i64, hlow, lows, V.low]) (by simp [lows_i64, hlow, lows, V.low, lows_ite, low_ite]) (go_start ?_)
      simp only [go_sem, ↓reduceIte, Nat.reduceEqDiff, Nat.reduceLT, Nat.reduceLeDiff, Nat.reduceAdd, Nat.reduceSub, Nat.reduceMul, Nat.reduceMod, Nat.reduceDiv, Int.reduceLE, Int.reduceLT, Int.reduceToNat, Int.reduceAdd, Int.reduceSub, Int.reduceMul, Int.reduceEq, Int.reduceNeg, BitVec.reduceOfInt, BitVec.reduceToNat, BitVec.reduceEq, BitVec.reduceNe, BitVec.reduceLT, reduceCtorEq, List.forall_mem_nil, Tryd.ntmps37, Tryd.results37, hne, hl, hx.1, hm, e1, g1, htt, List.take_of_length_le]
      refine ⟨by omega, ?_⟩
      refine goCallD_pure0 (ih) ?_
      simp only [go_sem, ↓reduceIte, Nat.reduceEqDiff, Nat.reduceLT, Nat.reduceLeDiff, Nat.reduceAdd, Nat.reduceSub, Nat.reduceMul, Nat.reduceMod, Nat.reduceDiv, Int.reduceLE, Int.reduceLT, Int.reduceToNat, Int.reduceAdd, Int.reduceSub, Int.reduceMul, Int.reduceEq, Int.reduceNeg, BitVec.reduceOfInt, BitVec.reduceToNat, BitVec.reduceEq, BitVec.reduceNe, BitVec.reduceLT, reduceCtorEq, List.forall_mem_nil, hl, hx.1, hm, hm2, lp, lq, ld1, ld2, la, e1, g2, hgd, hb0, splice_all, List.take_of_length_le]
      refine ⟨cellsP_one _, cellsP_one _, by kernel_rfl, by omega, ?_⟩
      refine goCallD_pure0 (sd1) ?_
      simp only [go_sem, ↓reduceIte, Nat.reduceEqDiff, Nat.reduceLT, Nat.reduceLeDiff, Nat.reduceAdd, Nat.reduceSub, Nat.reduceMul, Nat.reduceMod, Nat.reduceDiv, Int.reduceLE, Int.reduceLT, Int.reduceToNat, Int.reduceAdd, Int.reduceSub, Int.reduceMul, Int.reduceEq, Int.reduceNeg, BitVec.reduceOfInt, BitVec.reduceToNat, BitVec.reduceEq, BitVec.reduceNe, BitVec.reduceLT, reduceCtorEq, List.forall_mem_nil, hl, hx.1, hm, hm2, lp, lq, ld1, ld2, la, e1, g2, hgd, hb0, splice_all, List.take_of_length_le]
      refine goCallD_pure0 (sa) ?_
      simp only [go_sem, ↓reduceIte, Nat.reduceEqDiff, Nat.reduceLT, Nat.reduceLeDiff, Nat.reduceAdd, Nat.reduceSub, Nat.reduceMul, Nat.reduceMod, Nat.reduceDiv, Int.reduceLE, Int.reduceLT, Int.reduceToNat, Int.reduceAdd, Int.reduceSub, Int.reduceMul, Int.reduceEq, Int.reduceNeg, BitVec.reduceOfInt, BitVec.reduceToNat, BitVec.reduceEq, BitVec.reduceNe, BitVec.reduceLT, reduceCtorEq, List.forall_mem_nil, hl, hx.1, hm, hm2, lp, lq, ld1, ld2, la, e1, g2, hgd, hb0, splice_all, List.take_of_length_le]
      exact ⟨cellsP_one _, cellsP_one _, by kernel_rfl⟩
    · rw [if_neg hb0]
      refine pure_of_vc (by kernel_rfl) (fn := Tryd.f37) (by kernel_rfl) Tryd.func37 rfl (by show 2 ≤ 44; decide) (by simp [lows_i64, hlow, lows, V.low]) (by simp [lows_i64, hlow, lows, V.low, lows_ite, low_ite]) (go_start ?_)
      simp only [go_sem, ↓reduceIte, Nat.reduceEqDiff, Nat.reduceLT, Nat.reduceLeDiff, Nat.reduceAdd, Nat.reduceSub, Nat.reduceMul, Nat.reduceMod, Nat.reduceDiv, Int.reduceLE, Int.reduceLT, Int.reduceToNat, Int.reduceAdd, Int.reduceSub, Int.reduceMul, Int.reduceEq, Int.reduceNeg, BitVec.reduceOfInt, BitVec.reduceToNat, BitVec.reduceEq, BitVec.reduceNe, BitVec.reduceLT, reduceCtorEq, List.forall_mem_nil, Tryd.ntmps37, Tryd.results37, hne, hl, hx.1, hm, e1, g1, htt, List.take_of_length_le]
      refine ⟨by omega, ?_⟩
      refine goCallD_pure0 (ih) ?_
      simp only [go_sem, ↓reduceIte, Nat.reduceEqDiff, Nat.reduceLT, Nat.reduceLeDiff, Nat.reduceAdd, Nat.reduceSub, Nat.reduceMul, Nat.reduceMod, Nat.reduceDiv, Int.reduceLE, Int.reduceLT, Int.reduceToNat, Int.reduceAdd, Int.reduceSub, Int.reduceMul, Int.reduceEq, Int.reduceNeg, BitVec.reduceOfInt, BitVec.reduceToNat, BitVec.reduceEq, BitVec.reduceNe, BitVec.reduceLT, reduceCtorEq, List.forall_mem_nil, hl, hx.1, hm, hm2, lp, lq, ld1, ld2, la, e1, g2, hgd, hb0, splice_all, List.take_of_length_le]
      refine ⟨cellsP_one _, cellsP_one _, by kernel_rfl, by omega, ?_⟩
      refine goCallD_pure0 (sa) ?_
      simp only [go_sem, ↓reduceIte, Nat.reduceEqDiff, Nat.reduceLT, Nat.reduceLeDiff, Nat.reduceAdd, Nat.reduceSub, Nat.reduceMul, Nat.reduceMod, Nat.reduceDiv, Int.reduceLE, Int.reduceLT, Int.reduceToNat, Int.reduceAdd, Int.reduceSub, Int.reduceMul, Int.reduceEq, Int.reduceNeg, BitVec.reduceOfInt, BitVec.reduceToNat, BitVec.reduceEq, BitVec.reduceNe, BitVec.reduceLT, reduceCtorEq, List.forall_mem_nil, hl, hx.1, hm, hm2, lp, lq, ld1, ld2, la, e1, g2, hgd, hb0, splice_all, List.take_of_length_le]
      refine goCallD_pure0 (sd2) ?_
      simp only [go_sem, ↓reduceIte, Nat.reduceEqDiff, Nat.reduceLT, Nat.reduceLeDiff, Nat.reduceAdd, Nat.reduceSub, Nat.reduceMul, Nat.reduceMod, Nat.reduceDiv, Int.reduceLE, Int.reduceLT, Int.reduceToNat, Int.reduceAdd, Int.reduceSub, Int.reduceMul, Int.reduceEq, Int.reduceNeg, BitVec.reduceOfInt, BitVec.reduceToNat, BitVec.reduceEq, BitVec.reduceNe, BitVec.reduceLT, reduceCtorEq, List.forall_mem_nil, hl, hx.1, hm, hm2, lp, lq, ld1, ld2, la, e1, g2, hgd, hb0, splice_all, List.take_of_length_le]
      exact ⟨cellsP_one _, cellsP_one _, by kernel_rfl⟩
end Go.Vm
end
section
namespace Go.Vm
open Go.Proofs
set_option maxRecDepth 20000
theorem same_times_comm {r s : List (BitVec 64)} {m n : List Int} (h : Same r m) (k : Same s n) : Same (timesE r s) (timesI n m) := by
  obtain ⟨h1, h2⟩ := timesE_val r s h.1 k.1
  obtain ⟨h3, h4⟩ := timesI_val n m k.2.1 h.2.1
  refine ⟨h1, h3, ?_⟩
  rw [h4, of_nat_mod h2, Int.natCast_mul, Int.mul_comm, Int.mul_emod, h.2.2, k.2.2, ← Int.mul_emod]
theorem same_plus_comm {r s : List (BitVec 64)} {m n : List Int} (h : Same r m) (k : Same s n) : Same (plusE r s) (plusI n m 1) := by
  obtain ⟨h1, h2⟩ := plusE_val r s h.1 k.1
  obtain ⟨h3, h4⟩ := plusI_val n m 1 k.2.1 h.2.1 (by decide)
  refine ⟨h1, h3, ?_⟩
  rw [h4, of_nat_mod h2, Int.natCast_add, Int.add_comm, Int.add_emod, h.2.2, k.2.2, ← Int.add_emod, Int.one_mul]
/-- The same number, but for the sign. -/
def Opp (r : List (BitVec 64)) (m : List Int) : Prop := sm r ∧ okI m ∧ ((valE r : Nat) : Int) % Pi5 = (-valI m) % Pi5
theorem neg_congr {a b p : Int} (h : a % p = b % p) : (-a) % p = (-b) % p := by rw [← Int.zero_sub a, ← Int.zero_sub b, Int.sub_emod, h, ← Int.sub_emod]
theorem sub_congr {a b c d p : Int} (h : a % p = b % p) (k : c % p = d % p) : (a - c) % p = (b - d) % p := by rw [Int.sub_emod, h, k, ← Int.sub_emod]
theorem opp_minus {r s : List (BitVec 64)} {m n : List Int} (h : Same r m) (k : Same s n) : Opp (minusE r s) (plusI n m (-1)) := by
  obtain ⟨h1, h2⟩ := minusE_val r s h.1 k.1
  obtain ⟨h3, h4⟩ := plusI_val n m (-1) k.2.1 h.2.1 (by decide)
  refine ⟨h1, h3, ?_⟩
  have e1 := sub_congr h.2.2 k.2.2
  have e2 := neg_congr h4
  have e3 : -(valI n + -1 * valI m) = valI m - valI n := by omega
  rw [e3] at e2
  exact (h2.trans e1).trans e2.symm
theorem opp_square {r : List (BitVec 64)} {m : List Int} (h : Opp r m) : Same (timesE r r) (timesI m m) := by
  obtain ⟨h1, h2⟩ := timesE_val r r h.1 h.1
  obtain ⟨h3, h4⟩ := timesI_val m m h.2.1 h.2.1
  refine ⟨h1, h3, ?_⟩
  rw [h4, of_nat_mod h2, Int.natCast_mul, Int.mul_emod, h.2.2, ← Int.mul_emod, Int.neg_mul_neg]
def a24 : List (BitVec 64) := [121665#64, 0#64, 0#64, 0#64, 0#64]
theorem sm_a24 : sm a24 := ⟨rfl, fun x hx => by
  simp only [a24, List.mem_cons, List.not_mem_nil, or_false, or_self] at hx
  rcases hx with rfl | rfl
  · exact Nat.lt_of_le_of_lt (Nat.le_refl 121665) (by omega)
  · exact Nat.lt_of_le_of_lt (Nat.le_refl 0) (by omega)⟩
theorem same_24 {r s : List (BitVec 64)} {m n : List Int} (h : Same r m) (k : Same s n) : Same (plusE r (timesE a24 s)) (plusI m n 121665) := by
  obtain ⟨t1, t2⟩ := timesE_val a24 s sm_a24 k.1
  obtain ⟨h1, h2⟩ := plusE_val r (timesE a24 s) h.1 t1
  obtain ⟨h3, h4⟩ := plusI_val m n 121665 h.2.1 k.2.1 (by decide)
  refine ⟨h1, h3, ?_⟩
  have e : valE a24 = 121665 := rfl
  rw [e] at t2
  rw [h4, of_nat_mod h2, Int.natCast_add, Int.add_emod, h.2.2, of_nat_mod t2, Int.natCast_mul, Int.mul_emod ((121665 : Nat) : Int), k.2.2, ← Int.mul_emod, ← Int.add_emod]
  rfl
def kA (x z : List (BitVec 64)) := plusE x z
def kB (x z : List (BitVec 64)) := minusE x z
def kAA (x z : List (BitVec 64)) := timesE (kA x z) (kA x z)
def kBB (x z : List (BitVec 64)) := timesE (kB x z) (kB x z)
def kE (x z : List (BitVec 64)) := minusE (kAA x z) (kBB x z)
def kT (x z : List (BitVec 64)) := timesE a24 (kE x z)
def kU (x z : List (BitVec 64)) := plusE (kAA x z) (kT x z)
def kX2 (x z : List (BitVec 64)) := timesE (kAA x z) (kBB x z)
def kZ2 (x z : List (BitVec 64)) := timesE (kE x z) (kU x z)
def kDA (x2 z2 x3 z3 : List (BitVec 64)) := timesE (kB x3 z3) (kA x2 z2)
def kCB (x2 z2 x3 z3 : List (BitVec 64)) := timesE (kA x3 z3) (kB x2 z2)
def kX (x2 z2 x3 z3 : List (BitVec 64)) := plusE (kDA x2 z2 x3 z3) (kCB x2 z2 x3 z3)
def kXX (x2 z2 x3 z3 : List (BitVec 64)) := timesE (kX x2 z2 x3 z3) (kX x2 z2 x3 z3)
def kZ (x2 z2 x3 z3 : List (BitVec 64)) := minusE (kDA x2 z2 x3 z3) (kCB x2 z2 x3 z3)
def kZZ (x2 z2 x3 z3 : List (BitVec 64)) := timesE (kZ x2 z2 x3 z3) (kZ x2 z2 x3 z3)
def kZ3 (x x2 z2 x3 z3 : List (BitVec 64)) := timesE x (kZZ x2 z2 x3 z3)
def SameP (x z : List (BitVec 64)) (p : Pt) : Prop := Same x p.1 ∧ Same z p.2
theorem same_S {x z : List (BitVec 64)} {p : Pt} (h : SameP x z p) : Same (kA x z) (pS p) := same_plus h.1 h.2
theorem same_D {x z : List (BitVec 64)} {p : Pt} (h : SameP x z p) : Same (kB x z) (pD p) := same_minus h.1 h.2
theorem same_AA {x z : List (BitVec 64)} {p : Pt} (h : SameP x z p) : Same (kAA x z) (dA p) := same_times (same_S h) (same_S h)
theorem same_BB {x z : List (BitVec 64)} {p : Pt} (h : SameP x z p) : Same (kBB x z) (dB p) := same_times (same_D h) (same_D h)
theorem same_E {x z : List (BitVec 64)} {p : Pt} (h : SameP x z p) : Same (kE x z) (dE p) := same_minus (same_AA h) (same_BB h)
theorem same_U {x z : List (BitVec 64)} {p : Pt} (h : SameP x z p) : Same (kU x z) (dF p) := same_24 (same_AA h) (same_E h)
theorem same_dbl1 {x z : List (BitVec 64)} {p : Pt} (h : SameP x z p) : Same (kX2 x z) (timesI (dA p) (dB p)) := same_times (same_AA h) (same_BB h)
theorem same_dbl2 {x z : List (BitVec 64)} {p : Pt} (h : SameP x z p) : Same (kZ2 x z) (timesI (dE p) (dF p)) := same_times (same_E h) (same_U h)
theorem same_dbl {x z : List (BitVec 64)} {p : Pt} (h : SameP x z p) : SameP (kX2 x z) (kZ2 x z) (dblI p) := by
  dsimp only [SameP, dblI]
  exact ⟨same_dbl1 h, same_dbl2 h⟩
section
variable {x2 z2 x3 z3 x : List (BitVec 64)} {p q : Pt} {m : List Int}
theorem same_DA1 (h : SameP x2 z2 p) (k : SameP x3 z3 q) : Same (kDA x2 z2 x3 z3) (addB p q) := same_times_comm (same_D k) (same_S h)
theorem same_CB1 (h : SameP x2 z2 p) (k : SameP x3 z3 q) : Same (kCB x2 z2 x3 z3) (addA p q) := same_times_comm (same_S k) (same_D h)
theorem same_DA2 (h : SameP x2 z2 p) (k : SameP x3 z3 q) : Same (kDA x2 z2 x3 z3) (addA q p) := same_times (same_D k) (same_S h)
theorem same_CB2 (h : SameP x2 z2 p) (k : SameP x3 z3 q) : Same (kCB x2 z2 x3 z3) (addB q p) := same_times (same_S k) (same_D h)
theorem same_X1 (h : SameP x2 z2 p) (k : SameP x3 z3 q) : Same (kX x2 z2 x3 z3) (aC p q) := same_plus_comm (same_DA1 h k) (same_CB1 h k)
theorem same_X2 (h : SameP x2 z2 p) (k : SameP x3 z3 q) : Same (kX x2 z2 x3 z3) (aC q p) := same_plus (same_DA2 h k) (same_CB2 h k)
theorem opp_Z1 (h : SameP x2 z2 p) (k : SameP x3 z3 q) : Opp (kZ x2 z2 x3 z3) (aD p q) := opp_minus (same_DA1 h k) (same_CB1 h k)
theorem same_Z2 (h : SameP x2 z2 p) (k : SameP x3 z3 q) : Same (kZ x2 z2 x3 z3) (aD q p) := same_minus (same_DA2 h k) (same_CB2 h k)
theorem same_add1 (h : SameP x2 z2 p) (k : SameP x3 z3 q) (hx : Same x m) : SameP (kXX x2 z2 x3 z3) (kZ3 x x2 z2 x3 z3) (addPt p q m) := by
  have e1 : Same (kXX x2 z2 x3 z3) (timesI (aC p q) (aC p q)) := same_times (same_X1 h k) (same_X1 h k)
  have e2 : Same (kZZ x2 z2 x3 z3) (aDD p q) := opp_square (opp_Z1 h k)
  have e3 : Same (kZ3 x x2 z2 x3 z3) (timesI m (aDD p q)) := same_times hx e2
  dsimp only [SameP, addPt]
  exact ⟨e1, e3⟩
theorem same_add2 (h : SameP x2 z2 p) (k : SameP x3 z3 q) (hx : Same x m) : SameP (kXX x2 z2 x3 z3) (kZ3 x x2 z2 x3 z3) (addPt q p m) := by
  have e1 : Same (kXX x2 z2 x3 z3) (timesI (aC q p) (aC q p)) := same_times (same_X2 h k) (same_X2 h k)
  have e2 : Same (kZZ x2 z2 x3 z3) (aDD q p) := same_times (same_Z2 h k) (same_Z2 h k)
  have e3 : Same (kZ3 x x2 z2 x3 z3) (timesI m (aDD q p)) := same_times hx e2
  dsimp only [SameP, addPt]
  exact ⟨e1, e3⟩
end
structure L4 where
  x2 : List (BitVec 64)
  z2 : List (BitVec 64)
  x3 : List (BitVec 64)
  z3 : List (BitVec 64)
  sw : BitVec 8
def coreL (x x2 z2 x3 z3 : List (BitVec 64)) (bit : BitVec 8) : L4 := ⟨kX2 x2 z2, kZ2 x2 z2, kXX x2 z2 x3 z3, kZ3 x x2 z2 x3 z3, bit⟩
def stepL (x : List (BitVec 64)) (L : L4) (bit : BitVec 8) : L4 := if bit = L.sw then coreL x L.x2 L.z2 L.x3 L.z3 bit else coreL x L.x3 L.z3 L.x2 L.z2 bit
/-- The bit t of a key. -/
def bitL (Q : List (BitVec 8)) (t : Nat) : BitVec 8 := (Q.getD (t / 8) 0) >>> (t % 8) &&& 1#8
theorem bitL_two (Q : List (BitVec 8)) (t : Nat) : bitL Q t = 0#8 ∨ bitL Q t = 1#8 := by
  have h : (bitL Q t).toNat < 2 := by
    unfold bitL
    rw [BitVec.toNat_and, show (1#8).toNat = 2 ^ 1 - 1 from rfl, Nat.and_two_pow_sub_one_eq_mod]; omega
  have : (bitL Q t).toNat = 0 ∨ (bitL Q t).toNat = 1 := by omega
  rcases this with e | e
  · exact .inl (BitVec.eq_of_toNat_eq e)
  · exact .inr (BitVec.eq_of_toNat_eq e)
def ladE (x : List (BitVec 64)) (Q : List (BitVec 8)) : Nat → L4
  | 0 => ⟨oneE, List.replicate 5 0#64, x, oneE, 0#8⟩
  | c + 1 => stepL x (ladE x Q c) (bitL Q (254 - c))
/-- The bits as signs, the highest first. -/
def signL (Q : List (BitVec 8)) (t : Nat) : BitVec 8 := if bitL Q t = 0#8 then 48#8 else 49#8
def signs (Q : List (BitVec 8)) : Nat → List (BitVec 8)
  | 0 => []
  | c + 1 => signs Q c ++ [signL Q (254 - c)]
theorem signs_length (Q : List (BitVec 8)) (c : Nat) : (signs Q c).length = c := by
  induction c with
  | zero => rfl
  | succ c ih => rw [signs, List.length_append, ih]; rfl
theorem signs_getD (Q : List (BitVec 8)) (n : Nat) : ∀ c, c < n → (signs Q n).getD c 0 = signL Q (254 - c) := by
  induction n with
  | zero => intro c h; omega
  | succ n ih =>
    intro c h
    have hl := signs_length Q n
    rw [signs]
    by_cases h0 : c < n
    · rw [List.getD_eq_getElem?_getD, List.getElem?_append_left (by omega), ← List.getD_eq_getElem?_getD, ih c h0]
    · obtain rfl : c = n := by omega
      rw [List.getD_eq_getElem?_getD, List.getElem?_append_right (by omega), hl, Nat.sub_self]; rfl
def RL (L : L4) (pq : Pt × Pt) : Prop := (L.sw = 0#8 ∧ SameP L.x2 L.z2 pq.1 ∧ SameP L.x3 L.z3 pq.2) ∨ (L.sw = 1#8 ∧ SameP L.x3 L.z3 pq.1 ∧ SameP L.x2 L.z2 pq.2)
theorem RL_core0 {x a b c d : List (BitVec 64)} {p q : Pt} (h : SameP (kX2 a b) (kZ2 a b) p) (k : SameP (kXX a b c d) (kZ3 x a b c d) q) : RL (coreL x a b c d 0#8) (p, q) := by
  dsimp only [RL, coreL]
  exact .inl ⟨Eq.refl (0#8 : BitVec 8), h, k⟩
theorem RL_core1 {x a b c d : List (BitVec 64)} {p q : Pt} (h : SameP (kX2 a b) (kZ2 a b) q) (k : SameP (kXX a b c d) (kZ3 x a b c d) p) : RL (coreL x a b c d 1#8) (p, q) := by
  dsimp only [RL, coreL]
  exact .inr ⟨Eq.refl (1#8 : BitVec 8), k, h⟩
theorem same_one : Same oneE oneI := ⟨sm_one, ok_one, by decide⟩
theorem same_zero : Same (List.replicate 5 0#64) (List.replicate 16 0) := ⟨⟨rfl, fun x hx => by rw [List.eq_of_mem_replicate hx]; exact Nat.lt_of_le_of_lt (Nat.le_refl 0) (by omega)⟩, ok_zero, by decide⟩
theorem lad_same (x : List (BitVec 64)) (m : List Int) (Q : List (BitVec 8)) (hx : Same x m) (n : Nat) : ∀ c, c ≤ n → RL (ladE x Q c) (climbI m (signs Q n) c) := by
  intro c
  induction c with
  | zero => intro _; exact .inl ⟨rfl, ⟨same_one, same_zero⟩, ⟨hx, same_one⟩⟩
  | succ c ih =>
    intro hc
    have ih := ih (by omega)
    have hg := signs_getD Q n c (by omega)
    have hbt := bitL_two Q (254 - c)
    rw [ladE, climbI, hg]
    generalize ladE x Q c = L at *
    generalize (climbI m (signs Q n) c) = pq at *
    obtain ⟨p, q⟩ := pq
    dsimp only at ih ⊢
    have hs : signL Q (254 - c) = if bitL Q (254 - c) = 0#8 then 48#8 else 49#8 := rfl
    rw [hs]
    clear hs hg
    have st1 : ∀ b, b = L.sw → stepL x L b = coreL x L.x2 L.z2 L.x3 L.z3 b := fun b hb => by unfold stepL; rw [if_pos hb]
    have st2 : ∀ b, ¬ b = L.sw → stepL x L b = coreL x L.x3 L.z3 L.x2 L.z2 b := fun b hb => by unfold stepL; rw [if_neg hb]
    generalize bitL Q (254 - c) = bit at *
    have hb2 : bit = 0#8 ∨ bit = 1#8 := by assumption
    rcases hb2 with hb | hb
    · subst hb
      have e1 : (if (0#8 : BitVec 8) = 0#8 then (48#8 : BitVec 8) else 49#8) = 48#8 := by decide
      rw [e1, if_pos (Eq.refl (48#8 : BitVec 8))]
      rcases ih with ⟨h1, h2, h3⟩ | ⟨h1, h2, h3⟩
      · rw [st1 _ h1.symm]
        exact RL_core0 (same_dbl h2) (same_add1 h2 h3 hx)
      · rw [st2 _ (by rw [h1]; decide)]
        exact RL_core0 (same_dbl h2) (same_add1 h2 h3 hx)
    · subst hb
      have e1 : (if (1#8 : BitVec 8) = 0#8 then (48#8 : BitVec 8) else 49#8) = 49#8 := by decide
      rw [e1, if_neg (by decide : ¬ (49#8 : BitVec 8) = 48#8)]
      rcases ih with ⟨h1, h2, h3⟩ | ⟨h1, h2, h3⟩
      · rw [st2 _ (by rw [h1]; decide)]
        exact RL_core1 (same_dbl h3) (same_add2 h3 h2 hx)
      · rw [st1 _ h1.symm]
        exact RL_core1 (same_dbl h3) (same_add2 h3 h2 hx)
end Go.Vm
end
section
namespace Go.Vm
open Go.Proofs
set_option maxRecDepth 20000
theorem lad_sm (x : List (BitVec 64)) (Q : List (BitVec 8)) (hx : sm x) (c : Nat) : sm (ladE x Q c).x2 ∧ sm (ladE x Q c).z2 ∧ sm (ladE x Q c).x3 ∧ sm (ladE x Q c).z3 := by
  have core : ∀ a b c d bit, sm a → sm b → sm c → sm d → sm (coreL x a b c d bit).x2 ∧ sm (coreL x a b c d bit).z2 ∧ sm (coreL x a b c d bit).x3 ∧ sm (coreL x a b c d bit).z3 := by
    intro a b c d bit ha hb hc hd
    have sA : sm (kA a b) := (plusE_val a b ha hb).1
    have sB : sm (kB a b) := (minusE_val a b ha hb).1
    have sC : sm (kA c d) := (plusE_val c d hc hd).1
    have sD : sm (kB c d) := (minusE_val c d hc hd).1
    have sAA : sm (kAA a b) := (timesE_val _ _ sA sA).1
    have sBB : sm (kBB a b) := (timesE_val _ _ sB sB).1
    have sE : sm (kE a b) := (minusE_val _ _ sAA sBB).1
    have sT : sm (kT a b) := (timesE_val _ _ sm_a24 sE).1
    have sU : sm (kU a b) := (plusE_val _ _ sAA sT).1
    have sX2 : sm (kX2 a b) := (timesE_val _ _ sAA sBB).1
    have sZ2 : sm (kZ2 a b) := (timesE_val _ _ sE sU).1
    have sDA : sm (kDA a b c d) := (timesE_val _ _ sD sA).1
    have sCB : sm (kCB a b c d) := (timesE_val _ _ sC sB).1
    have sX : sm (kX a b c d) := (plusE_val _ _ sDA sCB).1
    have sXX : sm (kXX a b c d) := (timesE_val _ _ sX sX).1
    have sZ : sm (kZ a b c d) := (minusE_val _ _ sDA sCB).1
    have sZZ : sm (kZZ a b c d) := (timesE_val _ _ sZ sZ).1
    have sZ3 : sm (kZ3 x a b c d) := (timesE_val _ _ hx sZZ).1
    dsimp only [coreL]
    exact ⟨sX2, sZ2, sXX, sZ3⟩
  induction c with
  | zero => exact ⟨sm_one, same_zero.1, hx, sm_one⟩
  | succ c ih =>
    obtain ⟨h1, h2, h3, h4⟩ := ih
    rw [ladE]
    unfold stepL
    split
    · exact core _ _ _ _ _ h1 h2 h3 h4
    · exact core _ _ _ _ _ h3 h4 h1 h2
theorem coreL_1 (x a b c d : List (BitVec 64)) (bit : BitVec 8) : (coreL x a b c d bit).x2 = kX2 a b := by dsimp only [coreL]
theorem coreL_2 (x a b c d : List (BitVec 64)) (bit : BitVec 8) : (coreL x a b c d bit).z2 = kZ2 a b := by dsimp only [coreL]
theorem coreL_3 (x a b c d : List (BitVec 64)) (bit : BitVec 8) : (coreL x a b c d bit).x3 = kXX a b c d := by dsimp only [coreL]
theorem coreL_4 (x a b c d : List (BitVec 64)) (bit : BitVec 8) : (coreL x a b c d bit).z3 = kZ3 x a b c d := by dsimp only [coreL]
theorem coreL_5 (x a b c d : List (BitVec 64)) (bit : BitVec 8) : (coreL x a b c d bit).sw = bit := by dsimp only [coreL]
theorem plusE_len (a b : List (BitVec 64)) (h : a.length = 5) : (plusE a b).length = 5 := by unfold plusE; rw [carr5_length, addE_length, h]
theorem minusE_len (a b : List (BitVec 64)) (h : a.length = 5) : (minusE a b).length = 5 := by unfold minusE; rw [carr5_length, subE_length, h]
theorem timesE_len (a b : List (BitVec 64)) : (timesE a b).length = 5 := by
  unfold timesE foldT
  rw [carr5_length, List.length_set, List.length_set, outL_length, mulE_length]
set_option maxHeartbeats 4000000 in
theorem ladder_spec (Q U : List (BitVec 8)) (hQ : Q.length = 32) (hU : U.length = 32) : PureFn Tryd.prog 29 [.str Q, .str U] (.str (leB (valE (timesE (if (ladE (readE U) Q 255).sw = 1#8 then (ladE (readE U) Q 255).x3 else (ladE (readE U) Q 255).x2) (accE (if (ladE (readE U) Q 255).sw = 1#8 then (ladE (readE U) Q 255).z3 else (ladE (readE U) Q 255).z2) (invW 18446744073709551615#64) (64 * 4))) % Pq) 32)) := by
  have hQ' : (Q.length : Int) = 32 := by omega
  have hr := read_spec U hU
  have hxs := (readE_val U hU).1
  generalize readE U = x at hr hxs ⊢
  have hx := hxs.1
  have hm : min 5 5 = 5 := rfl
  have h24l : a24.length = 5 := rfl
  have hol : oneE.length = 5 := rfl
  have hone := one_spec
  have h24 : [V.u64 121665#64, V.u64 0#64, V.u64 0#64, V.u64 0#64, V.u64 0#64] = a24.map .u64 := rfl
  have h0z : [V.u64 0#64, V.u64 0#64, V.u64 0#64, V.u64 0#64, V.u64 0#64] = (List.replicate 5 0#64).map .u64 := rfl
  refine pure_of_vc (by kernel_rfl) (fn := Tryd.f29) (by kernel_rfl) Tryd.func29 rfl (by show 2 ≤ 122; decide) (by simp [lows_u64, lows, V.low]) (by simp [lows_u64, lows, V.low, lows_ite, low_ite]) (go_start ?_)
  simp only [go_sem, ↓reduceIte, Nat.reduceEqDiff, Nat.reduceLT, Nat.reduceLeDiff, Nat.reduceAdd, Nat.reduceSub, Nat.reduceMul, Nat.reduceMod, Nat.reduceDiv, Int.reduceLE, Int.reduceLT, Int.reduceToNat, Int.reduceAdd, Int.reduceSub, Int.reduceMul, Int.reduceEq, Int.reduceNeg, BitVec.reduceOfInt, BitVec.reduceToNat, BitVec.reduceEq, BitVec.reduceNe, BitVec.reduceLT, reduceCtorEq, List.forall_mem_nil, Tryd.ntmps29, Tryd.results29]
  refine goCall_pure0 (hr) ?_
  simp only [go_sem, ↓reduceIte, Nat.reduceEqDiff, Nat.reduceLT, Nat.reduceLeDiff, Nat.reduceAdd, Nat.reduceSub, Nat.reduceMul, Nat.reduceMod, Nat.reduceDiv, Int.reduceLE, Int.reduceLT, Int.reduceToNat, Int.reduceAdd, Int.reduceSub, Int.reduceMul, Int.reduceEq, Int.reduceNeg, BitVec.reduceOfInt, BitVec.reduceToNat, BitVec.reduceEq, BitVec.reduceNe, BitVec.reduceLT, reduceCtorEq, List.forall_mem_nil, hx, h24l, hol, hm, splice_all, List.take_of_length_le]
  refine goCallD_pure0 (hone) ?_
  simp only [go_sem, ↓reduceIte, Nat.reduceEqDiff, Nat.reduceLT, Nat.reduceLeDiff, Nat.reduceAdd, Nat.reduceSub, Nat.reduceMul, Nat.reduceMod, Nat.reduceDiv, Int.reduceLE, Int.reduceLT, Int.reduceToNat, Int.reduceAdd, Int.reduceSub, Int.reduceMul, Int.reduceEq, Int.reduceNeg, BitVec.reduceOfInt, BitVec.reduceToNat, BitVec.reduceEq, BitVec.reduceNe, BitVec.reduceLT, reduceCtorEq, List.forall_mem_nil, hx, h24l, hol, hm, splice_all, List.take_of_length_le]
  refine goCallD_pure0 (hone) ?_
  simp only [go_sem, ↓reduceIte, Nat.reduceEqDiff, Nat.reduceLT, Nat.reduceLeDiff, Nat.reduceAdd, Nat.reduceSub, Nat.reduceMul, Nat.reduceMod, Nat.reduceDiv, Int.reduceLE, Int.reduceLT, Int.reduceToNat, Int.reduceAdd, Int.reduceSub, Int.reduceMul, Int.reduceEq, Int.reduceNeg, BitVec.reduceOfInt, BitVec.reduceToNat, BitVec.reduceEq, BitVec.reduceNe, BitVec.reduceLT, reduceCtorEq, List.forall_mem_nil, hx, h24l, hol, hm, splice_all, List.take_of_length_le]
  refine ⟨by kernel_rfl, ?_⟩
  refine go_loop (fun jc st => ∃ c : Nat, c + jc = 255 ∧ st = ⟨[(0, .str Q), (5, .ptr 0 0), (7, .ptr 1 0), (8, .ptr 2 0), (9, .ptr 3 0), (10, .ptr 4 0), (11, .ptr 5 0), (12, .u8 (ladE x Q c).sw), (13, .i64 (254 - ((c : Nat) : Int)))], [some ⟨false, (x).map .u64⟩, some ⟨false, (a24).map .u64⟩, some ⟨false, ((ladE x Q c).x2).map .u64⟩, some ⟨false, ((ladE x Q c).z2).map .u64⟩, some ⟨false, ((ladE x Q c).x3).map .u64⟩, some ⟨false, ((ladE x Q c).z3).map .u64⟩]⟩) ?_ ?_
  · exact start_mk (255) ⟨[(0, .str Q), (5, .ptr 0 0), (7, .ptr 1 0), (8, .ptr 2 0), (9, .ptr 3 0), (10, .ptr 4 0), (11, .ptr 5 0), (12, .u8 (ladE x Q (0 : Nat)).sw), (13, .i64 (254 - (((0 : Nat) : Nat) : Int)))], [some ⟨false, (x).map .u64⟩, some ⟨false, (a24).map .u64⟩, some ⟨false, ((ladE x Q (0 : Nat)).x2).map .u64⟩, some ⟨false, ((ladE x Q (0 : Nat)).z2).map .u64⟩, some ⟨false, ((ladE x Q (0 : Nat)).x3).map .u64⟩, some ⟨false, ((ladE x Q (0 : Nat)).z3).map .u64⟩]⟩ (by simp [St.get, lookS, -List.map_set, -List.map_map, ladE, a24, oneE, List.replicate]) rfl (fun _ _ h => h) ⟨0, by omega, rfl⟩
  rintro jc st ⟨c, hc, rfl⟩ _
  simp only [go_sem, ↓reduceIte, Nat.reduceEqDiff, Nat.reduceLT, Nat.reduceLeDiff, Nat.reduceAdd, Nat.reduceSub, Nat.reduceMul, Nat.reduceMod, Nat.reduceDiv, Int.reduceLE, Int.reduceLT, Int.reduceToNat, Int.reduceAdd, Int.reduceSub, Int.reduceMul, Int.reduceEq, Int.reduceNeg, BitVec.reduceOfInt, BitVec.reduceToNat, BitVec.reduceEq, BitVec.reduceNe, BitVec.reduceLT, reduceCtorEq, List.forall_mem_nil]
  obtain ⟨s1, s2, s3, s4⟩ := lad_sm x Q hxs c
  by_cases h0 : c < 255
  · have h0' : (0 : Int) ≤ 254 - (c : Int) := by omega
    have ec : 254 - (c : Int) = ((254 - c : Nat) : Int) := by omega
    have e1 : w64 (((254 - c : Nat) : Int) - 1) = 254 - ((c + 1 : Nat) : Int) := by rw [w64_of (by omega) (by omega)]; omega
    have hst : stepL x (ladE x Q c) (bitL Q (254 - c)) = ladE x Q (c + 1) := rfl
    have m1 : w64 (((254 - c : Nat) : Int).tdiv 8) = (((254 - c) / 8 : Nat) : Int) := by rw [show (8 : Int) = ((8 : Nat) : Int) from rfl, tdiv_nat, w64_of (by omega) (by omega)]
    have m2 : ((254 - c : Nat) : Int).tmod 8 = (((254 - c) % 8 : Nat) : Int) := rfl
    have g1 : (((254 - c) / 8 : Nat) : Int) < 32 := by omega
    have z1 : (0 : Int) ≤ (((254 - c) / 8 : Nat) : Int) := by omega
    have z2 : (0 : Int) ≤ (((254 - c) % 8 : Nat) : Int) := by omega
    have hbit : (Q.getD ((254 - c) / 8) 0) >>> ((254 - c) % 8) &&& 1#8 = bitL Q (254 - c) := rfl
    generalize bitL Q (254 - c) = bit at *
    generalize hL : ladE x Q c = L at *
    obtain ⟨X2, Z2, X3, Z3, sw⟩ := L
    have l1 := s1.1
    have l2 := s2.1
    have l3 := s3.1
    have l4 := s4.1
    dsimp only at *
    by_cases hb : bit = sw
    · have hst2 : ladE x Q (c + 1) = coreL x X2 Z2 X3 Z3 bit := by rw [← hst]; unfold stepL; rw [if_pos hb]
      have n1 : (ladE x Q (c + 1)).x2 = kX2 X2 Z2 := by rw [hst2, coreL_1]
      have n2 : (ladE x Q (c + 1)).z2 = kZ2 X2 Z2 := by rw [hst2, coreL_2]
      have n3 : (ladE x Q (c + 1)).x3 = kXX X2 Z2 X3 Z3 := by rw [hst2, coreL_3]
      have n4 : (ladE x Q (c + 1)).z3 = kZ3 x X2 Z2 X3 Z3 := by rw [hst2, coreL_4]
      have n5 : (ladE x Q (c + 1)).sw = bit := by rw [hst2, coreL_5]
      clear hst hst2
      have tA := plusE_spec X2 Z2 l1 l2
      rw [show plusE X2 Z2 = kA X2 Z2 from rfl] at tA
      have lA : (kA X2 Z2).length = 5 := plusE_len _ _ l1
      have tB := minusE_spec X2 Z2 l1 l2
      rw [show minusE X2 Z2 = kB X2 Z2 from rfl] at tB
      have lB : (kB X2 Z2).length = 5 := minusE_len _ _ l1
      have tAA := timesE_spec _ _ lA lA
      rw [show timesE (kA X2 Z2) (kA X2 Z2) = kAA X2 Z2 from rfl] at tAA
      have lAA : (kAA X2 Z2).length = 5 := timesE_len _ _
      have tBB := timesE_spec _ _ lB lB
      rw [show timesE (kB X2 Z2) (kB X2 Z2) = kBB X2 Z2 from rfl] at tBB
      have lBB : (kBB X2 Z2).length = 5 := timesE_len _ _
      have tE := minusE_spec _ _ lAA lBB
      rw [show minusE (kAA X2 Z2) (kBB X2 Z2) = kE X2 Z2 from rfl] at tE
      have lE : (kE X2 Z2).length = 5 := minusE_len _ _ lAA
      have tC := plusE_spec X3 Z3 l3 l4
      rw [show plusE X3 Z3 = kA X3 Z3 from rfl] at tC
      have lC : (kA X3 Z3).length = 5 := plusE_len _ _ l3
      have tD := minusE_spec X3 Z3 l3 l4
      rw [show minusE X3 Z3 = kB X3 Z3 from rfl] at tD
      have lD : (kB X3 Z3).length = 5 := minusE_len _ _ l3
      have tDA := timesE_spec _ _ lD lA
      rw [show timesE (kB X3 Z3) (kA X2 Z2) = kDA X2 Z2 X3 Z3 from rfl] at tDA
      have lDA : (kDA X2 Z2 X3 Z3).length = 5 := timesE_len _ _
      have tCB := timesE_spec _ _ lC lB
      rw [show timesE (kA X3 Z3) (kB X2 Z2) = kCB X2 Z2 X3 Z3 from rfl] at tCB
      have lCB : (kCB X2 Z2 X3 Z3).length = 5 := timesE_len _ _
      have tX := plusE_spec _ _ lDA lCB
      rw [show plusE (kDA X2 Z2 X3 Z3) (kCB X2 Z2 X3 Z3) = kX X2 Z2 X3 Z3 from rfl] at tX
      have lX : (kX X2 Z2 X3 Z3).length = 5 := plusE_len _ _ lDA
      have tXX := timesE_spec _ _ lX lX
      rw [show timesE (kX X2 Z2 X3 Z3) (kX X2 Z2 X3 Z3) = kXX X2 Z2 X3 Z3 from rfl] at tXX
      have lXX : (kXX X2 Z2 X3 Z3).length = 5 := timesE_len _ _
      have tZ := minusE_spec _ _ lDA lCB
      rw [show minusE (kDA X2 Z2 X3 Z3) (kCB X2 Z2 X3 Z3) = kZ X2 Z2 X3 Z3 from rfl] at tZ
      have lZ : (kZ X2 Z2 X3 Z3).length = 5 := minusE_len _ _ lDA
      have tZZ := timesE_spec _ _ lZ lZ
      rw [show timesE (kZ X2 Z2 X3 Z3) (kZ X2 Z2 X3 Z3) = kZZ X2 Z2 X3 Z3 from rfl] at tZZ
      have lZZ : (kZZ X2 Z2 X3 Z3).length = 5 := timesE_len _ _
      have tZ3 := timesE_spec _ _ hx lZZ
      rw [show timesE x (kZZ X2 Z2 X3 Z3) = kZ3 x X2 Z2 X3 Z3 from rfl] at tZ3
      have lZ3 : (kZ3 x X2 Z2 X3 Z3).length = 5 := timesE_len _ _
      have tX2 := timesE_spec _ _ lAA lBB
      rw [show timesE (kAA X2 Z2) (kBB X2 Z2) = kX2 X2 Z2 from rfl] at tX2
      have lX2 : (kX2 X2 Z2).length = 5 := timesE_len _ _
      have tT := timesE_spec _ _ h24l lE
      rw [show timesE a24 (kE X2 Z2) = kT X2 Z2 from rfl] at tT
      have lT : (kT X2 Z2).length = 5 := timesE_len _ _
      have tU := plusE_spec _ _ lAA lT
      rw [show plusE (kAA X2 Z2) (kT X2 Z2) = kU X2 Z2 from rfl] at tU
      have lU : (kU X2 Z2).length = 5 := plusE_len _ _ lAA
      have tZ2 := timesE_spec _ _ lE lU
      rw [show timesE (kE X2 Z2) (kU X2 Z2) = kZ2 X2 Z2 from rfl] at tZ2
      have lZ2 : (kZ2 X2 Z2).length = 5 := timesE_len _ _
      generalize kZ2 X2 Z2 = vlZ2 at *
      generalize kU X2 Z2 = vlU at *
      generalize kT X2 Z2 = vlT at *
      generalize kX2 X2 Z2 = vlX2 at *
      generalize kZ3 x X2 Z2 X3 Z3 = vlZ3 at *
      generalize kZZ X2 Z2 X3 Z3 = vlZZ at *
      generalize kZ X2 Z2 X3 Z3 = vlZ at *
      generalize kXX X2 Z2 X3 Z3 = vlXX at *
      generalize kX X2 Z2 X3 Z3 = vlX at *
      generalize kCB X2 Z2 X3 Z3 = vlCB at *
      generalize kDA X2 Z2 X3 Z3 = vlDA at *
      generalize kB X3 Z3 = vlD at *
      generalize kA X3 Z3 = vlC at *
      generalize kE X2 Z2 = vlE at *
      generalize kBB X2 Z2 = vlBB at *
      generalize kAA X2 Z2 = vlAA at *
      generalize kB X2 Z2 = vlB at *
      generalize kA X2 Z2 = vlA at *
      simp only [go_sem, ↓reduceIte, Nat.reduceEqDiff, Nat.reduceLT, Nat.reduceLeDiff, Nat.reduceAdd, Nat.reduceSub, Nat.reduceMul, Nat.reduceMod, Nat.reduceDiv, Int.reduceLE, Int.reduceLT, Int.reduceToNat, Int.reduceAdd, Int.reduceSub, Int.reduceMul, Int.reduceEq, Int.reduceNeg, BitVec.reduceOfInt, BitVec.reduceToNat, BitVec.reduceEq, BitVec.reduceNe, BitVec.reduceLT, reduceCtorEq, List.forall_mem_nil, h0', ec, m1, m2, g1, z1, z2, hQ', hbit, hb, l1, l2, l3, l4, hm, splice_all, List.take_of_length_le]
      refine goCallD_pure0 (tA) ?_
      simp only [go_sem, ↓reduceIte, Nat.reduceEqDiff, Nat.reduceLT, Nat.reduceLeDiff, Nat.reduceAdd, Nat.reduceSub, Nat.reduceMul, Nat.reduceMod, Nat.reduceDiv, Int.reduceLE, Int.reduceLT, Int.reduceToNat, Int.reduceAdd, Int.reduceSub, Int.reduceMul, Int.reduceEq, Int.reduceNeg, BitVec.reduceOfInt, BitVec.reduceToNat, BitVec.reduceEq, BitVec.reduceNe, BitVec.reduceLT, reduceCtorEq, List.forall_mem_nil, hx, h24l, hm, l1, l2, l3, l4, lA, lB, lAA, lBB, lE, lC, lD, lDA, lCB, lX, lXX, lZ, lZZ, lZ3, lX2, lT, lU, lZ2, splice_all, List.take_of_length_le, e1]
      refine goCallD_pure0 (tB) ?_
      simp only [go_sem, ↓reduceIte, Nat.reduceEqDiff, Nat.reduceLT, Nat.reduceLeDiff, Nat.reduceAdd, Nat.reduceSub, Nat.reduceMul, Nat.reduceMod, Nat.reduceDiv, Int.reduceLE, Int.reduceLT, Int.reduceToNat, Int.reduceAdd, Int.reduceSub, Int.reduceMul, Int.reduceEq, Int.reduceNeg, BitVec.reduceOfInt, BitVec.reduceToNat, BitVec.reduceEq, BitVec.reduceNe, BitVec.reduceLT, reduceCtorEq, List.forall_mem_nil, hx, h24l, hm, l1, l2, l3, l4, lA, lB, lAA, lBB, lE, lC, lD, lDA, lCB, lX, lXX, lZ, lZZ, lZ3, lX2, lT, lU, lZ2, splice_all, List.take_of_length_le, e1]
      refine ⟨by kernel_rfl, ?_⟩
      refine goCallD_pure0 (tAA) ?_
      simp only [go_sem, ↓reduceIte, Nat.reduceEqDiff, Nat.reduceLT, Nat.reduceLeDiff, Nat.reduceAdd, Nat.reduceSub, Nat.reduceMul, Nat.reduceMod, Nat.reduceDiv, Int.reduceLE, Int.reduceLT, Int.reduceToNat, Int.reduceAdd, Int.reduceSub, Int.reduceMul, Int.reduceEq, Int.reduceNeg, BitVec.reduceOfInt, BitVec.reduceToNat, BitVec.reduceEq, BitVec.reduceNe, BitVec.reduceLT, reduceCtorEq, List.forall_mem_nil, hx, h24l, hm, l1, l2, l3, l4, lA, lB, lAA, lBB, lE, lC, lD, lDA, lCB, lX, lXX, lZ, lZZ, lZ3, lX2, lT, lU, lZ2, splice_all, List.take_of_length_le, e1]
      refine goCallD_pure0 (tBB) ?_
      simp only [go_sem, ↓reduceIte, Nat.reduceEqDiff, Nat.reduceLT, Nat.reduceLeDiff, Nat.reduceAdd, Nat.reduceSub, Nat.reduceMul, Nat.reduceMod, Nat.reduceDiv, Int.reduceLE, Int.reduceLT, Int.reduceToNat, Int.reduceAdd, Int.reduceSub, Int.reduceMul, Int.reduceEq, Int.reduceNeg, BitVec.reduceOfInt, BitVec.reduceToNat, BitVec.reduceEq, BitVec.reduceNe, BitVec.reduceLT, reduceCtorEq, List.forall_mem_nil, hx, h24l, hm, l1, l2, l3, l4, lA, lB, lAA, lBB, lE, lC, lD, lDA, lCB, lX, lXX, lZ, lZZ, lZ3, lX2, lT, lU, lZ2, splice_all, List.take_of_length_le, e1]
      refine ⟨by kernel_rfl, ?_⟩
      refine goCall_pure0 (tE) ?_
      simp only [go_sem, ↓reduceIte, Nat.reduceEqDiff, Nat.reduceLT, Nat.reduceLeDiff, Nat.reduceAdd, Nat.reduceSub, Nat.reduceMul, Nat.reduceMod, Nat.reduceDiv, Int.reduceLE, Int.reduceLT, Int.reduceToNat, Int.reduceAdd, Int.reduceSub, Int.reduceMul, Int.reduceEq, Int.reduceNeg, BitVec.reduceOfInt, BitVec.reduceToNat, BitVec.reduceEq, BitVec.reduceNe, BitVec.reduceLT, reduceCtorEq, List.forall_mem_nil, hx, h24l, hm, l1, l2, l3, l4, lA, lB, lAA, lBB, lE, lC, lD, lDA, lCB, lX, lXX, lZ, lZZ, lZ3, lX2, lT, lU, lZ2, splice_all, List.take_of_length_le, e1]
      refine goCallD_pure0 (tC) ?_
      simp only [go_sem, ↓reduceIte, Nat.reduceEqDiff, Nat.reduceLT, Nat.reduceLeDiff, Nat.reduceAdd, Nat.reduceSub, Nat.reduceMul, Nat.reduceMod, Nat.reduceDiv, Int.reduceLE, Int.reduceLT, Int.reduceToNat, Int.reduceAdd, Int.reduceSub, Int.reduceMul, Int.reduceEq, Int.reduceNeg, BitVec.reduceOfInt, BitVec.reduceToNat, BitVec.reduceEq, BitVec.reduceNe, BitVec.reduceLT, reduceCtorEq, List.forall_mem_nil, hx, h24l, hm, l1, l2, l3, l4, lA, lB, lAA, lBB, lE, lC, lD, lDA, lCB, lX, lXX, lZ, lZZ, lZ3, lX2, lT, lU, lZ2, splice_all, List.take_of_length_le, e1]
      refine goCallD_pure0 (tD) ?_
      simp only [go_sem, ↓reduceIte, Nat.reduceEqDiff, Nat.reduceLT, Nat.reduceLeDiff, Nat.reduceAdd, Nat.reduceSub, Nat.reduceMul, Nat.reduceMod, Nat.reduceDiv, Int.reduceLE, Int.reduceLT, Int.reduceToNat, Int.reduceAdd, Int.reduceSub, Int.reduceMul, Int.reduceEq, Int.reduceNeg, BitVec.reduceOfInt, BitVec.reduceToNat, BitVec.reduceEq, BitVec.reduceNe, BitVec.reduceLT, reduceCtorEq, List.forall_mem_nil, hx, h24l, hm, l1, l2, l3, l4, lA, lB, lAA, lBB, lE, lC, lD, lDA, lCB, lX, lXX, lZ, lZZ, lZ3, lX2, lT, lU, lZ2, splice_all, List.take_of_length_le, e1]
      refine ⟨by kernel_rfl, ?_⟩
      refine goCallD_pure0 (tDA) ?_
      simp only [go_sem, ↓reduceIte, Nat.reduceEqDiff, Nat.reduceLT, Nat.reduceLeDiff, Nat.reduceAdd, Nat.reduceSub, Nat.reduceMul, Nat.reduceMod, Nat.reduceDiv, Int.reduceLE, Int.reduceLT, Int.reduceToNat, Int.reduceAdd, Int.reduceSub, Int.reduceMul, Int.reduceEq, Int.reduceNeg, BitVec.reduceOfInt, BitVec.reduceToNat, BitVec.reduceEq, BitVec.reduceNe, BitVec.reduceLT, reduceCtorEq, List.forall_mem_nil, hx, h24l, hm, l1, l2, l3, l4, lA, lB, lAA, lBB, lE, lC, lD, lDA, lCB, lX, lXX, lZ, lZZ, lZ3, lX2, lT, lU, lZ2, splice_all, List.take_of_length_le, e1]
      refine goCallD_pure0 (tCB) ?_
      simp only [go_sem, ↓reduceIte, Nat.reduceEqDiff, Nat.reduceLT, Nat.reduceLeDiff, Nat.reduceAdd, Nat.reduceSub, Nat.reduceMul, Nat.reduceMod, Nat.reduceDiv, Int.reduceLE, Int.reduceLT, Int.reduceToNat, Int.reduceAdd, Int.reduceSub, Int.reduceMul, Int.reduceEq, Int.reduceNeg, BitVec.reduceOfInt, BitVec.reduceToNat, BitVec.reduceEq, BitVec.reduceNe, BitVec.reduceLT, reduceCtorEq, List.forall_mem_nil, hx, h24l, hm, l1, l2, l3, l4, lA, lB, lAA, lBB, lE, lC, lD, lDA, lCB, lX, lXX, lZ, lZZ, lZ3, lX2, lT, lU, lZ2, splice_all, List.take_of_length_le, e1]
      refine ⟨by kernel_rfl, ?_⟩
      refine goCall_pure0 (tX) ?_
      simp only [go_sem, ↓reduceIte, Nat.reduceEqDiff, Nat.reduceLT, Nat.reduceLeDiff, Nat.reduceAdd, Nat.reduceSub, Nat.reduceMul, Nat.reduceMod, Nat.reduceDiv, Int.reduceLE, Int.reduceLT, Int.reduceToNat, Int.reduceAdd, Int.reduceSub, Int.reduceMul, Int.reduceEq, Int.reduceNeg, BitVec.reduceOfInt, BitVec.reduceToNat, BitVec.reduceEq, BitVec.reduceNe, BitVec.reduceLT, reduceCtorEq, List.forall_mem_nil, hx, h24l, hm, l1, l2, l3, l4, lA, lB, lAA, lBB, lE, lC, lD, lDA, lCB, lX, lXX, lZ, lZZ, lZ3, lX2, lT, lU, lZ2, splice_all, List.take_of_length_le, e1]
      refine goCall_pure0 (tXX) ?_
      simp only [go_sem, ↓reduceIte, Nat.reduceEqDiff, Nat.reduceLT, Nat.reduceLeDiff, Nat.reduceAdd, Nat.reduceSub, Nat.reduceMul, Nat.reduceMod, Nat.reduceDiv, Int.reduceLE, Int.reduceLT, Int.reduceToNat, Int.reduceAdd, Int.reduceSub, Int.reduceMul, Int.reduceEq, Int.reduceNeg, BitVec.reduceOfInt, BitVec.reduceToNat, BitVec.reduceEq, BitVec.reduceNe, BitVec.reduceLT, reduceCtorEq, List.forall_mem_nil, hx, h24l, hm, l1, l2, l3, l4, lA, lB, lAA, lBB, lE, lC, lD, lDA, lCB, lX, lXX, lZ, lZZ, lZ3, lX2, lT, lU, lZ2, splice_all, List.take_of_length_le, e1]
      refine goCall_pure0 (tZ) ?_
      simp only [go_sem, ↓reduceIte, Nat.reduceEqDiff, Nat.reduceLT, Nat.reduceLeDiff, Nat.reduceAdd, Nat.reduceSub, Nat.reduceMul, Nat.reduceMod, Nat.reduceDiv, Int.reduceLE, Int.reduceLT, Int.reduceToNat, Int.reduceAdd, Int.reduceSub, Int.reduceMul, Int.reduceEq, Int.reduceNeg, BitVec.reduceOfInt, BitVec.reduceToNat, BitVec.reduceEq, BitVec.reduceNe, BitVec.reduceLT, reduceCtorEq, List.forall_mem_nil, hx, h24l, hm, l1, l2, l3, l4, lA, lB, lAA, lBB, lE, lC, lD, lDA, lCB, lX, lXX, lZ, lZZ, lZ3, lX2, lT, lU, lZ2, splice_all, List.take_of_length_le, e1]
      refine goCallD_pure0 (tZZ) ?_
      simp only [go_sem, ↓reduceIte, Nat.reduceEqDiff, Nat.reduceLT, Nat.reduceLeDiff, Nat.reduceAdd, Nat.reduceSub, Nat.reduceMul, Nat.reduceMod, Nat.reduceDiv, Int.reduceLE, Int.reduceLT, Int.reduceToNat, Int.reduceAdd, Int.reduceSub, Int.reduceMul, Int.reduceEq, Int.reduceNeg, BitVec.reduceOfInt, BitVec.reduceToNat, BitVec.reduceEq, BitVec.reduceNe, BitVec.reduceLT, reduceCtorEq, List.forall_mem_nil, hx, h24l, hm, l1, l2, l3, l4, lA, lB, lAA, lBB, lE, lC, lD, lDA, lCB, lX, lXX, lZ, lZZ, lZ3, lX2, lT, lU, lZ2, splice_all, List.take_of_length_le, e1]
      refine goCallD_pure0 (tZ3) ?_
      simp only [go_sem, ↓reduceIte, Nat.reduceEqDiff, Nat.reduceLT, Nat.reduceLeDiff, Nat.reduceAdd, Nat.reduceSub, Nat.reduceMul, Nat.reduceMod, Nat.reduceDiv, Int.reduceLE, Int.reduceLT, Int.reduceToNat, Int.reduceAdd, Int.reduceSub, Int.reduceMul, Int.reduceEq, Int.reduceNeg, BitVec.reduceOfInt, BitVec.reduceToNat, BitVec.reduceEq, BitVec.reduceNe, BitVec.reduceLT, reduceCtorEq, List.forall_mem_nil, hx, h24l, hm, l1, l2, l3, l4, lA, lB, lAA, lBB, lE, lC, lD, lDA, lCB, lX, lXX, lZ, lZZ, lZ3, lX2, lT, lU, lZ2, splice_all, List.take_of_length_le, e1]
      refine ⟨by kernel_rfl, ?_⟩
      refine goCall_pure0 (tX2) ?_
      simp only [go_sem, ↓reduceIte, Nat.reduceEqDiff, Nat.reduceLT, Nat.reduceLeDiff, Nat.reduceAdd, Nat.reduceSub, Nat.reduceMul, Nat.reduceMod, Nat.reduceDiv, Int.reduceLE, Int.reduceLT, Int.reduceToNat, Int.reduceAdd, Int.reduceSub, Int.reduceMul, Int.reduceEq, Int.reduceNeg, BitVec.reduceOfInt, BitVec.reduceToNat, BitVec.reduceEq, BitVec.reduceNe, BitVec.reduceLT, reduceCtorEq, List.forall_mem_nil, hx, h24l, hm, l1, l2, l3, l4, lA, lB, lAA, lBB, lE, lC, lD, lDA, lCB, lX, lXX, lZ, lZZ, lZ3, lX2, lT, lU, lZ2, splice_all, List.take_of_length_le, e1]
      refine goCallD_pure0 (tT) ?_
      simp only [go_sem, ↓reduceIte, Nat.reduceEqDiff, Nat.reduceLT, Nat.reduceLeDiff, Nat.reduceAdd, Nat.reduceSub, Nat.reduceMul, Nat.reduceMod, Nat.reduceDiv, Int.reduceLE, Int.reduceLT, Int.reduceToNat, Int.reduceAdd, Int.reduceSub, Int.reduceMul, Int.reduceEq, Int.reduceNeg, BitVec.reduceOfInt, BitVec.reduceToNat, BitVec.reduceEq, BitVec.reduceNe, BitVec.reduceLT, reduceCtorEq, List.forall_mem_nil, hx, h24l, hm, l1, l2, l3, l4, lA, lB, lAA, lBB, lE, lC, lD, lDA, lCB, lX, lXX, lZ, lZZ, lZ3, lX2, lT, lU, lZ2, splice_all, List.take_of_length_le, e1]
      refine goCallD_pure0 (tU) ?_
      simp only [go_sem, ↓reduceIte, Nat.reduceEqDiff, Nat.reduceLT, Nat.reduceLeDiff, Nat.reduceAdd, Nat.reduceSub, Nat.reduceMul, Nat.reduceMod, Nat.reduceDiv, Int.reduceLE, Int.reduceLT, Int.reduceToNat, Int.reduceAdd, Int.reduceSub, Int.reduceMul, Int.reduceEq, Int.reduceNeg, BitVec.reduceOfInt, BitVec.reduceToNat, BitVec.reduceEq, BitVec.reduceNe, BitVec.reduceLT, reduceCtorEq, List.forall_mem_nil, hx, h24l, hm, l1, l2, l3, l4, lA, lB, lAA, lBB, lE, lC, lD, lDA, lCB, lX, lXX, lZ, lZZ, lZ3, lX2, lT, lU, lZ2, splice_all, List.take_of_length_le, e1]
      refine goCallD_pure0 (tZ2) ?_
      simp only [go_sem, ↓reduceIte, Nat.reduceEqDiff, Nat.reduceLT, Nat.reduceLeDiff, Nat.reduceAdd, Nat.reduceSub, Nat.reduceMul, Nat.reduceMod, Nat.reduceDiv, Int.reduceLE, Int.reduceLT, Int.reduceToNat, Int.reduceAdd, Int.reduceSub, Int.reduceMul, Int.reduceEq, Int.reduceNeg, BitVec.reduceOfInt, BitVec.reduceToNat, BitVec.reduceEq, BitVec.reduceNe, BitVec.reduceLT, reduceCtorEq, List.forall_mem_nil, hx, h24l, hm, l1, l2, l3, l4, lA, lB, lAA, lBB, lE, lC, lD, lDA, lCB, lX, lXX, lZ, lZZ, lZ3, lX2, lT, lU, lZ2, splice_all, List.take_of_length_le, e1]
      refine ⟨by kernel_rfl, ?_⟩
      have hw1 : w64 ((c : Int) + 1) = ((c + 1 : Nat) : Int) := by rw [w64_of (by omega) (by omega)]; omega
      refine again_ren (jc - 1) ⟨[(0, .str Q), (5, .ptr 0 0), (7, .ptr 1 0), (8, .ptr 2 0), (9, .ptr 3 0), (10, .ptr 4 0), (11, .ptr 5 0), (12, .u8 (ladE x Q (c + 1 : Nat)).sw), (13, .i64 (254 - (((c + 1 : Nat) : Nat) : Int)))], [some ⟨false, (x).map .u64⟩, some ⟨false, (a24).map .u64⟩, some ⟨false, ((ladE x Q (c + 1 : Nat)).x2).map .u64⟩, some ⟨false, ((ladE x Q (c + 1 : Nat)).z2).map .u64⟩, some ⟨false, ((ladE x Q (c + 1 : Nat)).x3).map .u64⟩, some ⟨false, ((ladE x Q (c + 1 : Nat)).z3).map .u64⟩]⟩ [0, 1, 2, 3, 4, 5] (by omega) rfl (by simp) rfl (by decide) (by simp [slotsOk, St.get, lookS, hw1, -List.map_map, -List.map_set, vtuple_zero, rens_append, lows_append, sgOf_zero, sgOf_succ, rens, V.ren, lows, V.low, rens_u8, rens_u32, rens_u64, rens_i64, rens_str, lows_u8, lows_u32, lows_u64, lows_i64, lows_str, allSome, allRw, blksOk_nil, blksOk_none, blksOk_some, getH_zero, getH_succ, getH_nil, n1, n2, n3, n4, n5, hb]) (by simp [-List.map_map, -List.map_set, vtuple_zero, rens_append, lows_append, sgOf_zero, sgOf_succ, rens, V.ren, lows, V.low, rens_u8, rens_u32, rens_u64, rens_i64, rens_str, lows_u8, lows_u32, lows_u64, lows_i64, lows_str, allSome, allRw, blksOk_nil, blksOk_none, blksOk_some, getH_zero, getH_succ, getH_nil, n1, n2, n3, n4, n5, hb]) ⟨c + 1, by omega, rfl⟩
    · have hst2 : ladE x Q (c + 1) = coreL x X3 Z3 X2 Z2 bit := by rw [← hst]; unfold stepL; rw [if_neg hb]
      have n1 : (ladE x Q (c + 1)).x2 = kX2 X3 Z3 := by rw [hst2, coreL_1]
      have n2 : (ladE x Q (c + 1)).z2 = kZ2 X3 Z3 := by rw [hst2, coreL_2]
      have n3 : (ladE x Q (c + 1)).x3 = kXX X3 Z3 X2 Z2 := by rw [hst2, coreL_3]
      have n4 : (ladE x Q (c + 1)).z3 = kZ3 x X3 Z3 X2 Z2 := by rw [hst2, coreL_4]
      have n5 : (ladE x Q (c + 1)).sw = bit := by rw [hst2, coreL_5]
      clear hst hst2
      have tA := plusE_spec X3 Z3 l3 l4
      rw [show plusE X3 Z3 = kA X3 Z3 from rfl] at tA
      have lA : (kA X3 Z3).length = 5 := plusE_len _ _ l3
      have tB := minusE_spec X3 Z3 l3 l4
      rw [show minusE X3 Z3 = kB X3 Z3 from rfl] at tB
      have lB : (kB X3 Z3).length = 5 := minusE_len _ _ l3
      have tAA := timesE_spec _ _ lA lA
      rw [show timesE (kA X3 Z3) (kA X3 Z3) = kAA X3 Z3 from rfl] at tAA
      have lAA : (kAA X3 Z3).length = 5 := timesE_len _ _
      have tBB := timesE_spec _ _ lB lB
      rw [show timesE (kB X3 Z3) (kB X3 Z3) = kBB X3 Z3 from rfl] at tBB
      have lBB : (kBB X3 Z3).length = 5 := timesE_len _ _
      have tE := minusE_spec _ _ lAA lBB
      rw [show minusE (kAA X3 Z3) (kBB X3 Z3) = kE X3 Z3 from rfl] at tE
      have lE : (kE X3 Z3).length = 5 := minusE_len _ _ lAA
      have tC := plusE_spec X2 Z2 l1 l2
      rw [show plusE X2 Z2 = kA X2 Z2 from rfl] at tC
      have lC : (kA X2 Z2).length = 5 := plusE_len _ _ l1
      have tD := minusE_spec X2 Z2 l1 l2
      rw [show minusE X2 Z2 = kB X2 Z2 from rfl] at tD
      have lD : (kB X2 Z2).length = 5 := minusE_len _ _ l1
      have tDA := timesE_spec _ _ lD lA
      rw [show timesE (kB X2 Z2) (kA X3 Z3) = kDA X3 Z3 X2 Z2 from rfl] at tDA
      have lDA : (kDA X3 Z3 X2 Z2).length = 5 := timesE_len _ _
      have tCB := timesE_spec _ _ lC lB
      rw [show timesE (kA X2 Z2) (kB X3 Z3) = kCB X3 Z3 X2 Z2 from rfl] at tCB
      have lCB : (kCB X3 Z3 X2 Z2).length = 5 := timesE_len _ _
      have tX := plusE_spec _ _ lDA lCB
      rw [show plusE (kDA X3 Z3 X2 Z2) (kCB X3 Z3 X2 Z2) = kX X3 Z3 X2 Z2 from rfl] at tX
      have lX : (kX X3 Z3 X2 Z2).length = 5 := plusE_len _ _ lDA
      have tXX := timesE_spec _ _ lX lX
      rw [show timesE (kX X3 Z3 X2 Z2) (kX X3 Z3 X2 Z2) = kXX X3 Z3 X2 Z2 from rfl] at tXX
      have lXX : (kXX X3 Z3 X2 Z2).length = 5 := timesE_len _ _
      have tZ := minusE_spec _ _ lDA lCB
      rw [show minusE (kDA X3 Z3 X2 Z2) (kCB X3 Z3 X2 Z2) = kZ X3 Z3 X2 Z2 from rfl] at tZ
      have lZ : (kZ X3 Z3 X2 Z2).length = 5 := minusE_len _ _ lDA
      have tZZ := timesE_spec _ _ lZ lZ
      rw [show timesE (kZ X3 Z3 X2 Z2) (kZ X3 Z3 X2 Z2) = kZZ X3 Z3 X2 Z2 from rfl] at tZZ
      have lZZ : (kZZ X3 Z3 X2 Z2).length = 5 := timesE_len _ _
      have tZ3 := timesE_spec _ _ hx lZZ
      rw [show timesE x (kZZ X3 Z3 X2 Z2) = kZ3 x X3 Z3 X2 Z2 from rfl] at tZ3
      have lZ3 : (kZ3 x X3 Z3 X2 Z2).length = 5 := timesE_len _ _
      have tX2 := timesE_spec _ _ lAA lBB
      rw [show timesE (kAA X3 Z3) (kBB X3 Z3) = kX2 X3 Z3 from rfl] at tX2
      have lX2 : (kX2 X3 Z3).length = 5 := timesE_len _ _
      have tT := timesE_spec _ _ h24l lE
      rw [show timesE a24 (kE X3 Z3) = kT X3 Z3 from rfl] at tT
      have lT : (kT X3 Z3).length = 5 := timesE_len _ _
      have tU := plusE_spec _ _ lAA lT
      rw [show plusE (kAA X3 Z3) (kT X3 Z3) = kU X3 Z3 from rfl] at tU
      have lU : (kU X3 Z3).length = 5 := plusE_len _ _ lAA
      have tZ2 := timesE_spec _ _ lE lU
      rw [show timesE (kE X3 Z3) (kU X3 Z3) = kZ2 X3 Z3 from rfl] at tZ2
      have lZ2 : (kZ2 X3 Z3).length = 5 := timesE_len _ _
      generalize kZ2 X3 Z3 = vlZ2 at *
      generalize kU X3 Z3 = vlU at *
      generalize kT X3 Z3 = vlT at *
      generalize kX2 X3 Z3 = vlX2 at *
      generalize kZ3 x X3 Z3 X2 Z2 = vlZ3 at *
      generalize kZZ X3 Z3 X2 Z2 = vlZZ at *
      generalize kZ X3 Z3 X2 Z2 = vlZ at *
      generalize kXX X3 Z3 X2 Z2 = vlXX at *
      generalize kX X3 Z3 X2 Z2 = vlX at *
      generalize kCB X3 Z3 X2 Z2 = vlCB at *
      generalize kDA X3 Z3 X2 Z2 = vlDA at *
      generalize kB X2 Z2 = vlD at *
      generalize kA X2 Z2 = vlC at *
      generalize kE X3 Z3 = vlE at *
      generalize kBB X3 Z3 = vlBB at *
      generalize kAA X3 Z3 = vlAA at *
      generalize kB X3 Z3 = vlB at *
      generalize kA X3 Z3 = vlA at *
      simp only [go_sem, ↓reduceIte, Nat.reduceEqDiff, Nat.reduceLT, Nat.reduceLeDiff, Nat.reduceAdd, Nat.reduceSub, Nat.reduceMul, Nat.reduceMod, Nat.reduceDiv, Int.reduceLE, Int.reduceLT, Int.reduceToNat, Int.reduceAdd, Int.reduceSub, Int.reduceMul, Int.reduceEq, Int.reduceNeg, BitVec.reduceOfInt, BitVec.reduceToNat, BitVec.reduceEq, BitVec.reduceNe, BitVec.reduceLT, reduceCtorEq, List.forall_mem_nil, h0', ec, m1, m2, g1, z1, z2, hQ', hbit, hb, l1, l2, l3, l4, hm, splice_all, List.take_of_length_le]
      refine ⟨by kernel_rfl, ?_⟩
      refine goCallD_pure0 (tA) ?_
      simp only [go_sem, ↓reduceIte, Nat.reduceEqDiff, Nat.reduceLT, Nat.reduceLeDiff, Nat.reduceAdd, Nat.reduceSub, Nat.reduceMul, Nat.reduceMod, Nat.reduceDiv, Int.reduceLE, Int.reduceLT, Int.reduceToNat, Int.reduceAdd, Int.reduceSub, Int.reduceMul, Int.reduceEq, Int.reduceNeg, BitVec.reduceOfInt, BitVec.reduceToNat, BitVec.reduceEq, BitVec.reduceNe, BitVec.reduceLT, reduceCtorEq, List.forall_mem_nil, hx, h24l, hm, l1, l2, l3, l4, lA, lB, lAA, lBB, lE, lC, lD, lDA, lCB, lX, lXX, lZ, lZZ, lZ3, lX2, lT, lU, lZ2, splice_all, List.take_of_length_le, e1]
      refine goCallD_pure0 (tB) ?_
      simp only [go_sem, ↓reduceIte, Nat.reduceEqDiff, Nat.reduceLT, Nat.reduceLeDiff, Nat.reduceAdd, Nat.reduceSub, Nat.reduceMul, Nat.reduceMod, Nat.reduceDiv, Int.reduceLE, Int.reduceLT, Int.reduceToNat, Int.reduceAdd, Int.reduceSub, Int.reduceMul, Int.reduceEq, Int.reduceNeg, BitVec.reduceOfInt, BitVec.reduceToNat, BitVec.reduceEq, BitVec.reduceNe, BitVec.reduceLT, reduceCtorEq, List.forall_mem_nil, hx, h24l, hm, l1, l2, l3, l4, lA, lB, lAA, lBB, lE, lC, lD, lDA, lCB, lX, lXX, lZ, lZZ, lZ3, lX2, lT, lU, lZ2, splice_all, List.take_of_length_le, e1]
      refine ⟨by kernel_rfl, ?_⟩
      refine goCallD_pure0 (tAA) ?_
      simp only [go_sem, ↓reduceIte, Nat.reduceEqDiff, Nat.reduceLT, Nat.reduceLeDiff, Nat.reduceAdd, Nat.reduceSub, Nat.reduceMul, Nat.reduceMod, Nat.reduceDiv, Int.reduceLE, Int.reduceLT, Int.reduceToNat, Int.reduceAdd, Int.reduceSub, Int.reduceMul, Int.reduceEq, Int.reduceNeg, BitVec.reduceOfInt, BitVec.reduceToNat, BitVec.reduceEq, BitVec.reduceNe, BitVec.reduceLT, reduceCtorEq, List.forall_mem_nil, hx, h24l, hm, l1, l2, l3, l4, lA, lB, lAA, lBB, lE, lC, lD, lDA, lCB, lX, lXX, lZ, lZZ, lZ3, lX2, lT, lU, lZ2, splice_all, List.take_of_length_le, e1]
      refine goCallD_pure0 (tBB) ?_
      simp only [go_sem, ↓reduceIte, Nat.reduceEqDiff, Nat.reduceLT, Nat.reduceLeDiff, Nat.reduceAdd, Nat.reduceSub, Nat.reduceMul, Nat.reduceMod, Nat.reduceDiv, Int.reduceLE, Int.reduceLT, Int.reduceToNat, Int.reduceAdd, Int.reduceSub, Int.reduceMul, Int.reduceEq, Int.reduceNeg, BitVec.reduceOfInt, BitVec.reduceToNat, BitVec.reduceEq, BitVec.reduceNe, BitVec.reduceLT, reduceCtorEq, List.forall_mem_nil, hx, h24l, hm, l1, l2, l3, l4, lA, lB, lAA, lBB, lE, lC, lD, lDA, lCB, lX, lXX, lZ, lZZ, lZ3, lX2, lT, lU, lZ2, splice_all, List.take_of_length_le, e1]
      refine ⟨by kernel_rfl, ?_⟩
      refine goCall_pure0 (tE) ?_
      simp only [go_sem, ↓reduceIte, Nat.reduceEqDiff, Nat.reduceLT, Nat.reduceLeDiff, Nat.reduceAdd, Nat.reduceSub, Nat.reduceMul, Nat.reduceMod, Nat.reduceDiv, Int.reduceLE, Int.reduceLT, Int.reduceToNat, Int.reduceAdd, Int.reduceSub, Int.reduceMul, Int.reduceEq, Int.reduceNeg, BitVec.reduceOfInt, BitVec.reduceToNat, BitVec.reduceEq, BitVec.reduceNe, BitVec.reduceLT, reduceCtorEq, List.forall_mem_nil, hx, h24l, hm, l1, l2, l3, l4, lA, lB, lAA, lBB, lE, lC, lD, lDA, lCB, lX, lXX, lZ, lZZ, lZ3, lX2, lT, lU, lZ2, splice_all, List.take_of_length_le, e1]
      refine goCallD_pure0 (tC) ?_
      simp only [go_sem, ↓reduceIte, Nat.reduceEqDiff, Nat.reduceLT, Nat.reduceLeDiff, Nat.reduceAdd, Nat.reduceSub, Nat.reduceMul, Nat.reduceMod, Nat.reduceDiv, Int.reduceLE, Int.reduceLT, Int.reduceToNat, Int.reduceAdd, Int.reduceSub, Int.reduceMul, Int.reduceEq, Int.reduceNeg, BitVec.reduceOfInt, BitVec.reduceToNat, BitVec.reduceEq, BitVec.reduceNe, BitVec.reduceLT, reduceCtorEq, List.forall_mem_nil, hx, h24l, hm, l1, l2, l3, l4, lA, lB, lAA, lBB, lE, lC, lD, lDA, lCB, lX, lXX, lZ, lZZ, lZ3, lX2, lT, lU, lZ2, splice_all, List.take_of_length_le, e1]
      refine goCallD_pure0 (tD) ?_
      simp only [go_sem, ↓reduceIte, Nat.reduceEqDiff, Nat.reduceLT, Nat.reduceLeDiff, Nat.reduceAdd, Nat.reduceSub, Nat.reduceMul, Nat.reduceMod, Nat.reduceDiv, Int.reduceLE, Int.reduceLT, Int.reduceToNat, Int.reduceAdd, Int.reduceSub, Int.reduceMul, Int.reduceEq, Int.reduceNeg, BitVec.reduceOfInt, BitVec.reduceToNat, BitVec.reduceEq, BitVec.reduceNe, BitVec.reduceLT, reduceCtorEq, List.forall_mem_nil, hx, h24l, hm, l1, l2, l3, l4, lA, lB, lAA, lBB, lE, lC, lD, lDA, lCB, lX, lXX, lZ, lZZ, lZ3, lX2, lT, lU, lZ2, splice_all, List.take_of_length_le, e1]
      refine ⟨by kernel_rfl, ?_⟩
      refine goCallD_pure0 (tDA) ?_
      simp only [go_sem, ↓reduceIte, Nat.reduceEqDiff, Nat.reduceLT, Nat.reduceLeDiff, Nat.reduceAdd, Nat.reduceSub, Nat.reduceMul, Nat.reduceMod, Nat.reduceDiv, Int.reduceLE, Int.reduceLT, Int.reduceToNat, Int.reduceAdd, Int.reduceSub, Int.reduceMul, Int.reduceEq, Int.reduceNeg, BitVec.reduceOfInt, BitVec.reduceToNat, BitVec.reduceEq, BitVec.reduceNe, BitVec.reduceLT, reduceCtorEq, List.forall_mem_nil, hx, h24l, hm, l1, l2, l3, l4, lA, lB, lAA, lBB, lE, lC, lD, lDA, lCB, lX, lXX, lZ, lZZ, lZ3, lX2, lT, lU, lZ2, splice_all, List.take_of_length_le, e1]
      refine goCallD_pure0 (tCB) ?_
      simp only [go_sem, ↓reduceIte, Nat.reduceEqDiff, Nat.reduceLT, Nat.reduceLeDiff, Nat.reduceAdd, Nat.reduceSub, Nat.reduceMul, Nat.reduceMod, Nat.reduceDiv, Int.reduceLE, Int.reduceLT, Int.reduceToNat, Int.reduceAdd, Int.reduceSub, Int.reduceMul, Int.reduceEq, Int.reduceNeg, BitVec.reduceOfInt, BitVec.reduceToNat, BitVec.reduceEq, BitVec.reduceNe, BitVec.reduceLT, reduceCtorEq, List.forall_mem_nil, hx, h24l, hm, l1, l2, l3, l4, lA, lB, lAA, lBB, lE, lC, lD, lDA, lCB, lX, lXX, lZ, lZZ, lZ3, lX2, lT, lU, lZ2, splice_all, List.take_of_length_le, e1]
      refine ⟨by kernel_rfl, ?_⟩
      refine goCall_pure0 (tX) ?_
      simp only [go_sem, ↓reduceIte, Nat.reduceEqDiff, Nat.reduceLT, Nat.reduceLeDiff, Nat.reduceAdd, Nat.reduceSub, Nat.reduceMul, Nat.reduceMod, Nat.reduceDiv, Int.reduceLE, Int.reduceLT, Int.reduceToNat, Int.reduceAdd, Int.reduceSub, Int.reduceMul, Int.reduceEq, Int.reduceNeg, BitVec.reduceOfInt, BitVec.reduceToNat, BitVec.reduceEq, BitVec.reduceNe, BitVec.reduceLT, reduceCtorEq, List.forall_mem_nil, hx, h24l, hm, l1, l2, l3, l4, lA, lB, lAA, lBB, lE, lC, lD, lDA, lCB, lX, lXX, lZ, lZZ, lZ3, lX2, lT, lU, lZ2, splice_all, List.take_of_length_le, e1]
      refine goCall_pure0 (tXX) ?_
      simp only [go_sem, ↓reduceIte, Nat.reduceEqDiff, Nat.reduceLT, Nat.reduceLeDiff, Nat.reduceAdd, Nat.reduceSub, Nat.reduceMul, Nat.reduceMod, Nat.reduceDiv, Int.reduceLE, Int.reduceLT, Int.reduceToNat, Int.reduceAdd, Int.reduceSub, Int.reduceMul, Int.reduceEq, Int.reduceNeg, BitVec.reduceOfInt, BitVec.reduceToNat, BitVec.reduceEq, BitVec.reduceNe, BitVec.reduceLT, reduceCtorEq, List.forall_mem_nil, hx, h24l, hm, l1, l2, l3, l4, lA, lB, lAA, lBB, lE, lC, lD, lDA, lCB, lX, lXX, lZ, lZZ, lZ3, lX2, lT, lU, lZ2, splice_all, List.take_of_length_le, e1]
      refine goCall_pure0 (tZ) ?_
      simp only [go_sem, ↓reduceIte, Nat.reduceEqDiff, Nat.reduceLT, Nat.reduceLeDiff, Nat.reduceAdd, Nat.reduceSub, Nat.reduceMul, Nat.reduceMod, Nat.reduceDiv, Int.reduceLE, Int.reduceLT, Int.reduceToNat, Int.reduceAdd, Int.reduceSub, Int.reduceMul, Int.reduceEq, Int.reduceNeg, BitVec.reduceOfInt, BitVec.reduceToNat, BitVec.reduceEq, BitVec.reduceNe, BitVec.reduceLT, reduceCtorEq, List.forall_mem_nil, hx, h24l, hm, l1, l2, l3, l4, lA, lB, lAA, lBB, lE, lC, lD, lDA, lCB, lX, lXX, lZ, lZZ, lZ3, lX2, lT, lU, lZ2, splice_all, List.take_of_length_le, e1]
      refine goCallD_pure0 (tZZ) ?_
      simp only [go_sem, ↓reduceIte, Nat.reduceEqDiff, Nat.reduceLT, Nat.reduceLeDiff, Nat.reduceAdd, Nat.reduceSub, Nat.reduceMul, Nat.reduceMod, Nat.reduceDiv, Int.reduceLE, Int.reduceLT, Int.reduceToNat, Int.reduceAdd, Int.reduceSub, Int.reduceMul, Int.reduceEq, Int.reduceNeg, BitVec.reduceOfInt, BitVec.reduceToNat, BitVec.reduceEq, BitVec.reduceNe, BitVec.reduceLT, reduceCtorEq, List.forall_mem_nil, hx, h24l, hm, l1, l2, l3, l4, lA, lB, lAA, lBB, lE, lC, lD, lDA, lCB, lX, lXX, lZ, lZZ, lZ3, lX2, lT, lU, lZ2, splice_all, List.take_of_length_le, e1]
      refine goCallD_pure0 (tZ3) ?_
      simp only [go_sem, ↓reduceIte, Nat.reduceEqDiff, Nat.reduceLT, Nat.reduceLeDiff, Nat.reduceAdd, Nat.reduceSub, Nat.reduceMul, Nat.reduceMod, Nat.reduceDiv, Int.reduceLE, Int.reduceLT, Int.reduceToNat, Int.reduceAdd, Int.reduceSub, Int.reduceMul, Int.reduceEq, Int.reduceNeg, BitVec.reduceOfInt, BitVec.reduceToNat, BitVec.reduceEq, BitVec.reduceNe, BitVec.reduceLT, reduceCtorEq, List.forall_mem_nil, hx, h24l, hm, l1, l2, l3, l4, lA, lB, lAA, lBB, lE, lC, lD, lDA, lCB, lX, lXX, lZ, lZZ, lZ3, lX2, lT, lU, lZ2, splice_all, List.take_of_length_le, e1]
      refine ⟨by kernel_rfl, ?_⟩
      refine goCall_pure0 (tX2) ?_
      simp only [go_sem, ↓reduceIte, Nat.reduceEqDiff, Nat.reduceLT, Nat.reduceLeDiff, Nat.reduceAdd, Nat.reduceSub, Nat.reduceMul, Nat.reduceMod, Nat.reduceDiv, Int.reduceLE, Int.reduceLT, Int.reduceToNat, Int.reduceAdd, Int.reduceSub, Int.reduceMul, Int.reduceEq, Int.reduceNeg, BitVec.reduceOfInt, BitVec.reduceToNat, BitVec.reduceEq, BitVec.reduceNe, BitVec.reduceLT, reduceCtorEq, List.forall_mem_nil, hx, h24l, hm, l1, l2, l3, l4, lA, lB, lAA, lBB, lE, lC, lD, lDA, lCB, lX, lXX, lZ, lZZ, lZ3, lX2, lT, lU, lZ2, splice_all, List.take_of_length_le, e1]
      refine goCallD_pure0 (tT) ?_
      simp only [go_sem, ↓reduceIte, Nat.reduceEqDiff, Nat.reduceLT, Nat.reduceLeDiff, Nat.reduceAdd, Nat.reduceSub, Nat.reduceMul, Nat.reduceMod, Nat.reduceDiv, Int.reduceLE, Int.reduceLT, Int.reduceToNat, Int.reduceAdd, Int.reduceSub, Int.reduceMul, Int.reduceEq, Int.reduceNeg, BitVec.reduceOfInt, BitVec.reduceToNat, BitVec.reduceEq, BitVec.reduceNe, BitVec.reduceLT, reduceCtorEq, List.forall_mem_nil, hx, h24l, hm, l1, l2, l3, l4, lA, lB, lAA, lBB, lE, lC, lD, lDA, lCB, lX, lXX, lZ, lZZ, lZ3, lX2, lT, lU, lZ2, splice_all, List.take_of_length_le, e1]
      refine goCallD_pure0 (tU) ?_
      simp only [go_sem, ↓reduceIte, Nat.reduceEqDiff, Nat.reduceLT, Nat.reduceLeDiff, Nat.reduceAdd, Nat.reduceSub, Nat.reduceMul, Nat.reduceMod, Nat.reduceDiv, Int.reduceLE, Int.reduceLT, Int.reduceToNat, Int.reduceAdd, Int.reduceSub, Int.reduceMul, Int.reduceEq, Int.reduceNeg, BitVec.reduceOfInt, BitVec.reduceToNat, BitVec.reduceEq, BitVec.reduceNe, BitVec.reduceLT, reduceCtorEq, List.forall_mem_nil, hx, h24l, hm, l1, l2, l3, l4, lA, lB, lAA, lBB, lE, lC, lD, lDA, lCB, lX, lXX, lZ, lZZ, lZ3, lX2, lT, lU, lZ2, splice_all, List.take_of_length_le, e1]
      refine goCallD_pure0 (tZ2) ?_
      simp only [go_sem, ↓reduceIte, Nat.reduceEqDiff, Nat.reduceLT, Nat.reduceLeDiff, Nat.reduceAdd, Nat.reduceSub, Nat.reduceMul, Nat.reduceMod, Nat.reduceDiv, Int.reduceLE, Int.reduceLT, Int.reduceToNat, Int.reduceAdd, Int.reduceSub, Int.reduceMul, Int.reduceEq, Int.reduceNeg, BitVec.reduceOfInt, BitVec.reduceToNat, BitVec.reduceEq, BitVec.reduceNe, BitVec.reduceLT, reduceCtorEq, List.forall_mem_nil, hx, h24l, hm, l1, l2, l3, l4, lA, lB, lAA, lBB, lE, lC, lD, lDA, lCB, lX, lXX, lZ, lZZ, lZ3, lX2, lT, lU, lZ2, splice_all, List.take_of_length_le, e1]
      refine ⟨by kernel_rfl, ?_⟩
      have hw1 : w64 ((c : Int) + 1) = ((c + 1 : Nat) : Int) := by rw [w64_of (by omega) (by omega)]; omega
      refine again_ren (jc - 1) ⟨[(0, .str Q), (5, .ptr 0 0), (7, .ptr 1 0), (8, .ptr 2 0), (9, .ptr 3 0), (10, .ptr 4 0), (11, .ptr 5 0), (12, .u8 (ladE x Q (c + 1 : Nat)).sw), (13, .i64 (254 - (((c + 1 : Nat) : Nat) : Int)))], [some ⟨false, (x).map .u64⟩, some ⟨false, (a24).map .u64⟩, some ⟨false, ((ladE x Q (c + 1 : Nat)).x2).map .u64⟩, some ⟨false, ((ladE x Q (c + 1 : Nat)).z2).map .u64⟩, some ⟨false, ((ladE x Q (c + 1 : Nat)).x3).map .u64⟩, some ⟨false, ((ladE x Q (c + 1 : Nat)).z3).map .u64⟩]⟩ [0, 1, 2, 3, 4, 5] (by omega) rfl (by simp) rfl (by decide) (by simp [slotsOk, St.get, lookS, hw1, -List.map_map, -List.map_set, vtuple_zero, rens_append, lows_append, sgOf_zero, sgOf_succ, rens, V.ren, lows, V.low, rens_u8, rens_u32, rens_u64, rens_i64, rens_str, lows_u8, lows_u32, lows_u64, lows_i64, lows_str, allSome, allRw, blksOk_nil, blksOk_none, blksOk_some, getH_zero, getH_succ, getH_nil, n1, n2, n3, n4, n5]) (by simp [-List.map_map, -List.map_set, vtuple_zero, rens_append, lows_append, sgOf_zero, sgOf_succ, rens, V.ren, lows, V.low, rens_u8, rens_u32, rens_u64, rens_i64, rens_str, lows_u8, lows_u32, lows_u64, lows_i64, lows_str, allSome, allRw, blksOk_nil, blksOk_none, blksOk_some, getH_zero, getH_succ, getH_nil, n1, n2, n3, n4, n5]) ⟨c + 1, by omega, rfl⟩
  · obtain rfl : c = 255 := by omega
    have h0' : ¬ (0 : Int) ≤ 254 - ((255 : Nat) : Int) := by omega
    have hx0 : (255 : Int) = ((255 : Nat) : Int) := rfl
    generalize hL : ladE x Q 255 = L at *
    obtain ⟨X2, Z2, X3, Z3, sw⟩ := L
    have l1 := s1.1
    have l2 := s2.1
    have l3 := s3.1
    have l4 := s4.1
    dsimp only at *
    have hiw : [V.u64 18446744073709551595#64, V.u64 18446744073709551615#64, V.u64 18446744073709551615#64, V.u64 9223372036854775807#64] = (invW 18446744073709551615#64).map .u64 := rfl
    have w4 : (invW 18446744073709551615#64).length = 4 := rfl
    by_cases hb : sw = 1#8
    · rw [if_pos hb, if_pos hb]
      have hp := power_spec Z3 (invW 18446744073709551615#64) s4 (by show 4 ≤ 100; omega)
      have sp := accE_sm Z3 (invW 18446744073709551615#64) s4 (64 * 4)
      rw [w4, ← hiw] at hp
      generalize accE Z3 (invW 18446744073709551615#64) (64 * 4) = P at *
      have ht := timesE_spec X3 P l3 sp.1
      have st := (timesE_val X3 P s3 sp).1
      have hte := textE_spec _ st
      simp only [go_sem, ↓reduceIte, Nat.reduceEqDiff, Nat.reduceLT, Nat.reduceLeDiff, Nat.reduceAdd, Nat.reduceSub, Nat.reduceMul, Nat.reduceMod, Nat.reduceDiv, Int.reduceLE, Int.reduceLT, Int.reduceToNat, Int.reduceAdd, Int.reduceSub, Int.reduceMul, Int.reduceEq, Int.reduceNeg, BitVec.reduceOfInt, BitVec.reduceToNat, BitVec.reduceEq, BitVec.reduceNe, BitVec.reduceLT, reduceCtorEq, List.forall_mem_nil, h0', hb, l1, l2, l3, l4, hm, splice_all, List.take_of_length_le]
      refine ⟨by kernel_rfl, ?_⟩
      refine goCallD_read [6] (hp) (by kernel_rfl) (by simp [-List.map_map, -List.map_set, vtuple_zero, rens_append, lows_append, sgOf_zero, sgOf_succ, rens, V.ren, lows, V.low, rens_u8, rens_u32, rens_u64, rens_i64, rens_str, lows_u8, lows_u32, lows_u64, lows_i64, lows_str, allSome, allRw, blksOk_nil, blksOk_none, blksOk_some, getH_zero, getH_succ, getH_nil]) rfl (by simp [-List.map_map, -List.map_set, vtuple_zero, rens_append, lows_append, sgOf_zero, sgOf_succ, rens, V.ren, lows, V.low, rens_u8, rens_u32, rens_u64, rens_i64, rens_str, lows_u8, lows_u32, lows_u64, lows_i64, lows_str, allSome, allRw, blksOk_nil, blksOk_none, blksOk_some, getH_zero, getH_succ, getH_nil]) (by decide) (by simp [-List.map_map, -List.map_set, vtuple_zero, rens_append, lows_append, sgOf_zero, sgOf_succ, rens, V.ren, lows, V.low, rens_u8, rens_u32, rens_u64, rens_i64, rens_str, lows_u8, lows_u32, lows_u64, lows_i64, lows_str, allSome, allRw, blksOk_nil, blksOk_none, blksOk_some, getH_zero, getH_succ, getH_nil]) (by simp [-List.map_map, -List.map_set, vtuple_zero, rens_append, lows_append, sgOf_zero, sgOf_succ, rens, V.ren, lows, V.low, rens_u8, rens_u32, rens_u64, rens_i64, rens_str, lows_u8, lows_u32, lows_u64, lows_i64, lows_str, allSome, allRw, blksOk_nil, blksOk_none, blksOk_some, getH_zero, getH_succ, getH_nil]) (by simp [-List.map_map, -List.map_set, vtuple_zero, rens_append, lows_append, sgOf_zero, sgOf_succ, rens, V.ren, lows, V.low, rens_u8, rens_u32, rens_u64, rens_i64, rens_str, lows_u8, lows_u32, lows_u64, lows_i64, lows_str, allSome, allRw, blksOk_nil, blksOk_none, blksOk_some, getH_zero, getH_succ, getH_nil]) (by simp [-List.map_map, -List.map_set, vtuple_zero, rens_append, lows_append, sgOf_zero, sgOf_succ, rens, V.ren, lows, V.low, rens_u8, rens_u32, rens_u64, rens_i64, rens_str, lows_u8, lows_u32, lows_u64, lows_i64, lows_str, allSome, allRw, blksOk_nil, blksOk_none, blksOk_some, getH_zero, getH_succ, getH_nil]) (by simp) (by first | (simp [memRes, oldsOf, sgNew, renO, Blk.ren, List.map_append, -List.map_map, -List.map_set, vtuple_zero, rens_append, lows_append, sgOf_zero, sgOf_succ, rens, V.ren, lows, V.low, rens_u8, rens_u32, rens_u64, rens_i64, rens_str, lows_u8, lows_u32, lows_u64, lows_i64, lows_str, allSome, allRw, blksOk_nil, blksOk_none, blksOk_some, getH_zero, getH_succ, getH_nil]; done) | simp [go_sem, memRes]) ?_
      simp only [go_sem, ↓reduceIte, Nat.reduceEqDiff, Nat.reduceLT, Nat.reduceLeDiff, Nat.reduceAdd, Nat.reduceSub, Nat.reduceMul, Nat.reduceMod, Nat.reduceDiv, Int.reduceLE, Int.reduceLT, Int.reduceToNat, Int.reduceAdd, Int.reduceSub, Int.reduceMul, Int.reduceEq, Int.reduceNeg, BitVec.reduceOfInt, BitVec.reduceToNat, BitVec.reduceEq, BitVec.reduceNe, BitVec.reduceLT, reduceCtorEq, List.forall_mem_nil, sp.1, l1, l2, l3, l4, hm, splice_all, List.take_of_length_le]
      refine goCallD_pure0 (ht) ?_
      simp only [go_sem, ↓reduceIte, Nat.reduceEqDiff, Nat.reduceLT, Nat.reduceLeDiff, Nat.reduceAdd, Nat.reduceSub, Nat.reduceMul, Nat.reduceMod, Nat.reduceDiv, Int.reduceLE, Int.reduceLT, Int.reduceToNat, Int.reduceAdd, Int.reduceSub, Int.reduceMul, Int.reduceEq, Int.reduceNeg, BitVec.reduceOfInt, BitVec.reduceToNat, BitVec.reduceEq, BitVec.reduceNe, BitVec.reduceLT, reduceCtorEq, List.forall_mem_nil]
      refine goCallD_pure0 (hte) ?_
      simp only [go_sem, ↓reduceIte, Nat.reduceEqDiff, Nat.reduceLT, Nat.reduceLeDiff, Nat.reduceAdd, Nat.reduceSub, Nat.reduceMul, Nat.reduceMod, Nat.reduceDiv, Int.reduceLE, Int.reduceLT, Int.reduceToNat, Int.reduceAdd, Int.reduceSub, Int.reduceMul, Int.reduceEq, Int.reduceNeg, BitVec.reduceOfInt, BitVec.reduceToNat, BitVec.reduceEq, BitVec.reduceNe, BitVec.reduceLT, reduceCtorEq, List.forall_mem_nil]
      kernel_rfl
    · rw [if_neg hb, if_neg hb]
      have hp := power_spec Z2 (invW 18446744073709551615#64) s2 (by show 4 ≤ 100; omega)
      have sp := accE_sm Z2 (invW 18446744073709551615#64) s2 (64 * 4)
      rw [w4, ← hiw] at hp
      generalize accE Z2 (invW 18446744073709551615#64) (64 * 4) = P at *
      have ht := timesE_spec X2 P l1 sp.1
      have st := (timesE_val X2 P s1 sp).1
      have hte := textE_spec _ st
      simp only [go_sem, ↓reduceIte, Nat.reduceEqDiff, Nat.reduceLT, Nat.reduceLeDiff, Nat.reduceAdd, Nat.reduceSub, Nat.reduceMul, Nat.reduceMod, Nat.reduceDiv, Int.reduceLE, Int.reduceLT, Int.reduceToNat, Int.reduceAdd, Int.reduceSub, Int.reduceMul, Int.reduceEq, Int.reduceNeg, BitVec.reduceOfInt, BitVec.reduceToNat, BitVec.reduceEq, BitVec.reduceNe, BitVec.reduceLT, reduceCtorEq, List.forall_mem_nil, h0', hb, l1, l2, l3, l4, hm, splice_all, List.take_of_length_le]
      refine goCallD_read [6] (hp) (by kernel_rfl) (by simp [-List.map_map, -List.map_set, vtuple_zero, rens_append, lows_append, sgOf_zero, sgOf_succ, rens, V.ren, lows, V.low, rens_u8, rens_u32, rens_u64, rens_i64, rens_str, lows_u8, lows_u32, lows_u64, lows_i64, lows_str, allSome, allRw, blksOk_nil, blksOk_none, blksOk_some, getH_zero, getH_succ, getH_nil]) rfl (by simp [-List.map_map, -List.map_set, vtuple_zero, rens_append, lows_append, sgOf_zero, sgOf_succ, rens, V.ren, lows, V.low, rens_u8, rens_u32, rens_u64, rens_i64, rens_str, lows_u8, lows_u32, lows_u64, lows_i64, lows_str, allSome, allRw, blksOk_nil, blksOk_none, blksOk_some, getH_zero, getH_succ, getH_nil]) (by decide) (by simp [-List.map_map, -List.map_set, vtuple_zero, rens_append, lows_append, sgOf_zero, sgOf_succ, rens, V.ren, lows, V.low, rens_u8, rens_u32, rens_u64, rens_i64, rens_str, lows_u8, lows_u32, lows_u64, lows_i64, lows_str, allSome, allRw, blksOk_nil, blksOk_none, blksOk_some, getH_zero, getH_succ, getH_nil]) (by simp [-List.map_map, -List.map_set, vtuple_zero, rens_append, lows_append, sgOf_zero, sgOf_succ, rens, V.ren, lows, V.low, rens_u8, rens_u32, rens_u64, rens_i64, rens_str, lows_u8, lows_u32, lows_u64, lows_i64, lows_str, allSome, allRw, blksOk_nil, blksOk_none, blksOk_some, getH_zero, getH_succ, getH_nil]) (by simp [-List.map_map, -List.map_set, vtuple_zero, rens_append, lows_append, sgOf_zero, sgOf_succ, rens, V.ren, lows, V.low, rens_u8, rens_u32, rens_u64, rens_i64, rens_str, lows_u8, lows_u32, lows_u64, lows_i64, lows_str, allSome, allRw, blksOk_nil, blksOk_none, blksOk_some, getH_zero, getH_succ, getH_nil]) (by simp [-List.map_map, -List.map_set, vtuple_zero, rens_append, lows_append, sgOf_zero, sgOf_succ, rens, V.ren, lows, V.low, rens_u8, rens_u32, rens_u64, rens_i64, rens_str, lows_u8, lows_u32, lows_u64, lows_i64, lows_str, allSome, allRw, blksOk_nil, blksOk_none, blksOk_some, getH_zero, getH_succ, getH_nil]) (by simp) (by first | (simp [memRes, oldsOf, sgNew, renO, Blk.ren, List.map_append, -List.map_map, -List.map_set, vtuple_zero, rens_append, lows_append, sgOf_zero, sgOf_succ, rens, V.ren, lows, V.low, rens_u8, rens_u32, rens_u64, rens_i64, rens_str, lows_u8, lows_u32, lows_u64, lows_i64, lows_str, allSome, allRw, blksOk_nil, blksOk_none, blksOk_some, getH_zero, getH_succ, getH_nil]; done) | simp [go_sem, memRes]) ?_
      simp only [go_sem, ↓reduceIte, Nat.reduceEqDiff, Nat.reduceLT, Nat.reduceLeDiff, Nat.reduceAdd, Nat.reduceSub, Nat.reduceMul, Nat.reduceMod, Nat.reduceDiv, Int.reduceLE, Int.reduceLT, Int.reduceToNat, Int.reduceAdd, Int.reduceSub, Int.reduceMul, Int.reduceEq, Int.reduceNeg, BitVec.reduceOfInt, BitVec.reduceToNat, BitVec.reduceEq, BitVec.reduceNe, BitVec.reduceLT, reduceCtorEq, List.forall_mem_nil, sp.1, l1, l2, l3, l4, hm, splice_all, List.take_of_length_le]
      refine goCallD_pure0 (ht) ?_
      simp only [go_sem, ↓reduceIte, Nat.reduceEqDiff, Nat.reduceLT, Nat.reduceLeDiff, Nat.reduceAdd, Nat.reduceSub, Nat.reduceMul, Nat.reduceMod, Nat.reduceDiv, Int.reduceLE, Int.reduceLT, Int.reduceToNat, Int.reduceAdd, Int.reduceSub, Int.reduceMul, Int.reduceEq, Int.reduceNeg, BitVec.reduceOfInt, BitVec.reduceToNat, BitVec.reduceEq, BitVec.reduceNe, BitVec.reduceLT, reduceCtorEq, List.forall_mem_nil]
      refine goCallD_pure0 (hte) ?_
      simp only [go_sem, ↓reduceIte, Nat.reduceEqDiff, Nat.reduceLT, Nat.reduceLeDiff, Nat.reduceAdd, Nat.reduceSub, Nat.reduceMul, Nat.reduceMod, Nat.reduceDiv, Int.reduceLE, Int.reduceLT, Int.reduceToNat, Int.reduceAdd, Int.reduceSub, Int.reduceMul, Int.reduceEq, Int.reduceNeg, BitVec.reduceOfInt, BitVec.reduceToNat, BitVec.reduceEq, BitVec.reduceNe, BitVec.reduceLT, reduceCtorEq, List.forall_mem_nil]
      kernel_rfl
end Go.Vm
end
section
namespace Go.Vm
open Go.Proofs
set_option maxRecDepth 20000
def maskU (u : List (BitVec 8)) : List (BitVec 8) := u.set 31 (u.getD 31 0 &&& 127#8)
theorem maskU_length (u : List (BitVec 8)) : (maskU u).length = u.length := by unfold maskU; rw [List.length_set]
/-- What Mult answers. -/
def multB (k u : List (BitVec 8)) : List (BitVec 8) :=
  leastB (timesI (climbI (numI (maskU u) 16) (signs (clampC k) 255) 255).1.1 (invI (climbI (numI (maskU u) 16) (signs (clampC k) 255) 255).1.2))
theorem clampC_length (k : List (BitVec 8)) : (clampC k).length = k.length := by unfold clampC; rw [List.length_set, List.length_set]
theorem lad_text (Q U : List (BitVec 8)) (hU : U.length = 32) : leB (valE (timesE (if (ladE (readE U) Q 255).sw = 1#8 then (ladE (readE U) Q 255).x3 else (ladE (readE U) Q 255).x2) (accE (if (ladE (readE U) Q 255).sw = 1#8 then (ladE (readE U) Q 255).z3 else (ladE (readE U) Q 255).z2) (invW 18446744073709551615#64) (64 * 4))) % Pq) 32 =
    leastB (timesI (climbI (numI U 16) (signs Q 255) 255).1.1 (invI (climbI (numI U 16) (signs Q 255) 255).1.2)) := by
  have hs := lad_same (readE U) (numI U 16) Q (same_read U hU) 255 255 (Nat.le_refl _)
  have hw : 64 * 4 = 64 * (invW 18446744073709551615#64).length := rfl
  generalize ladE (readE U) Q 255 = L at *
  generalize climbI (numI U 16) (signs Q 255) 255 = pq at *
  rcases hs with ⟨h1, h2, h3⟩ | ⟨h1, h2, h3⟩
  · have hn : ¬ L.sw = 1#8 := by rw [h1]; decide
    rw [if_neg hn, if_neg hn]
    have hp := same_power h2.2 bitsP_num
    rw [← hw] at hp
    exact same_text (same_times h2.1 hp)
  · rw [if_pos h1, if_pos h1]
    have hp := same_power h2.2 bitsP_num
    rw [← hw] at hp
    exact same_text (same_times h2.1 hp)
theorem Mult_bad (k u : List (BitVec 8)) (h : ¬ (k.length = 32 ∧ u.length = 32)) : PureFn Tryd.prog 17 [.str k, .str u] (.tup [.str [], .i64 1]) := by
  have hc := Clamp_spec k
  by_cases hk : k.length = 32
  · have hu : ¬ (u.length : Int) = 32 := by omega
    rw [if_pos hk] at hc
    refine pure_of_vc (by kernel_rfl) (fn := Tryd.f17) (by kernel_rfl) Tryd.func17 rfl (by show 2 ≤ 32; decide) (by simp [lows, V.low]) (by simp [lows, V.low, lows_ite, low_ite]) (go_start ?_)
    simp only [go_sem, ↓reduceIte, Nat.reduceEqDiff, Nat.reduceLT, Nat.reduceLeDiff, Nat.reduceAdd, Nat.reduceSub, Nat.reduceMul, Nat.reduceMod, Nat.reduceDiv, Int.reduceLE, Int.reduceLT, Int.reduceToNat, Int.reduceAdd, Int.reduceSub, Int.reduceMul, Int.reduceEq, Int.reduceNeg, BitVec.reduceOfInt, BitVec.reduceToNat, BitVec.reduceEq, BitVec.reduceNe, BitVec.reduceLT, reduceCtorEq, List.forall_mem_nil, Tryd.ntmps17, Tryd.results17]
    refine goCall_pure0 (hc) ?_
    simp only [go_sem, ↓reduceIte, Nat.reduceEqDiff, Nat.reduceLT, Nat.reduceLeDiff, Nat.reduceAdd, Nat.reduceSub, Nat.reduceMul, Nat.reduceMod, Nat.reduceDiv, Int.reduceLE, Int.reduceLT, Int.reduceToNat, Int.reduceAdd, Int.reduceSub, Int.reduceMul, Int.reduceEq, Int.reduceNeg, BitVec.reduceOfInt, BitVec.reduceToNat, BitVec.reduceEq, BitVec.reduceNe, BitVec.reduceLT, reduceCtorEq, List.forall_mem_nil, hu]
  · rw [if_neg hk] at hc
    refine pure_of_vc (by kernel_rfl) (fn := Tryd.f17) (by kernel_rfl) Tryd.func17 rfl (by show 2 ≤ 32; decide) (by simp [lows, V.low]) (by simp [lows, V.low, lows_ite, low_ite]) (go_start ?_)
    simp only [go_sem, ↓reduceIte, Nat.reduceEqDiff, Nat.reduceLT, Nat.reduceLeDiff, Nat.reduceAdd, Nat.reduceSub, Nat.reduceMul, Nat.reduceMod, Nat.reduceDiv, Int.reduceLE, Int.reduceLT, Int.reduceToNat, Int.reduceAdd, Int.reduceSub, Int.reduceMul, Int.reduceEq, Int.reduceNeg, BitVec.reduceOfInt, BitVec.reduceToNat, BitVec.reduceEq, BitVec.reduceNe, BitVec.reduceLT, reduceCtorEq, List.forall_mem_nil, Tryd.ntmps17, Tryd.results17]
    refine goCall_pure0 (hc) ?_
    simp only [go_sem, ↓reduceIte, Nat.reduceEqDiff, Nat.reduceLT, Nat.reduceLeDiff, Nat.reduceAdd, Nat.reduceSub, Nat.reduceMul, Nat.reduceMod, Nat.reduceDiv, Int.reduceLE, Int.reduceLT, Int.reduceToNat, Int.reduceAdd, Int.reduceSub, Int.reduceMul, Int.reduceEq, Int.reduceNeg, BitVec.reduceOfInt, BitVec.reduceToNat, BitVec.reduceEq, BitVec.reduceNe, BitVec.reduceLT, reduceCtorEq, List.forall_mem_nil]
theorem Mult_spec (k u : List (BitVec 8)) (hk : k.length = 32) (hu : u.length = 32) : PureFn Tryd.prog 17 [.str k, .str u] (.tup [.str (multB k u), .i64 0]) := by
  have hu' : (u.length : Int) = 32 := by omega
  have hc := Clamp_spec k
  rw [if_pos hk] at hc
  have hl := ladder_spec (clampC k) (maskU u) (by rw [clampC_length, hk]) (by rw [maskU_length, hu])
  rw [lad_text _ _ (by rw [maskU_length, hu])] at hl
  have hm : u.set 31 (u.getD 31 0 &&& 127#8) = maskU u := rfl
  have hml := maskU_length u
  rw [hu] at hml
  have g31 : 31 < u.length := by omega
  have hm32 : min 32 32 = 32 := rfl
  unfold multB
  refine pure_of_vc (by kernel_rfl) (fn := Tryd.f17) (by kernel_rfl) Tryd.func17 rfl (by show 2 ≤ 32; decide) (by simp [lows, V.low]) (by simp [lows, V.low, lows_ite, low_ite]) (go_start ?_)
  simp only [go_sem, ↓reduceIte, Nat.reduceEqDiff, Nat.reduceLT, Nat.reduceLeDiff, Nat.reduceAdd, Nat.reduceSub, Nat.reduceMul, Nat.reduceMod, Nat.reduceDiv, Int.reduceLE, Int.reduceLT, Int.reduceToNat, Int.reduceAdd, Int.reduceSub, Int.reduceMul, Int.reduceEq, Int.reduceNeg, BitVec.reduceOfInt, BitVec.reduceToNat, BitVec.reduceEq, BitVec.reduceNe, BitVec.reduceLT, reduceCtorEq, List.forall_mem_nil, Tryd.ntmps17, Tryd.results17]
  refine goCall_pure0 (hc) ?_
  simp only [go_sem, ↓reduceIte, Nat.reduceEqDiff, Nat.reduceLT, Nat.reduceLeDiff, Nat.reduceAdd, Nat.reduceSub, Nat.reduceMul, Nat.reduceMod, Nat.reduceDiv, Int.reduceLE, Int.reduceLT, Int.reduceToNat, Int.reduceAdd, Int.reduceSub, Int.reduceMul, Int.reduceEq, Int.reduceNeg, BitVec.reduceOfInt, BitVec.reduceToNat, BitVec.reduceEq, BitVec.reduceNe, BitVec.reduceLT, reduceCtorEq, List.forall_mem_nil, hu', hu, hm32, getD_u8 g31, hm, hml, List.take_of_length_le]
  refine goCall_pure0 (hl) ?_
  simp only [go_sem, ↓reduceIte, Nat.reduceEqDiff, Nat.reduceLT, Nat.reduceLeDiff, Nat.reduceAdd, Nat.reduceSub, Nat.reduceMul, Nat.reduceMod, Nat.reduceDiv, Int.reduceLE, Int.reduceLT, Int.reduceToNat, Int.reduceAdd, Int.reduceSub, Int.reduceMul, Int.reduceEq, Int.reduceNeg, BitVec.reduceOfInt, BitVec.reduceToNat, BitVec.reduceEq, BitVec.reduceNe, BitVec.reduceLT, reduceCtorEq, List.forall_mem_nil]
theorem RMult_bad (k u : List (BitVec 8)) (h : ¬ (k.length = 32 ∧ u.length = 32)) : PureFn Tryd.prog 19 [.str k, .str u] (.tup [.str [], .i64 1]) := by
  have hc := RClamp_spec k
  by_cases hk : k.length = 32
  · have hu : ¬ (u.length : Int) = 32 := by omega
    rw [if_pos hk] at hc
    refine pure_of_vc (by kernel_rfl) (fn := Tryd.f19) (by kernel_rfl) Tryd.func19 rfl (by show 2 ≤ 62; decide) (by simp [lows, V.low]) (by simp [lows, V.low, lows_ite, low_ite]) (go_start ?_)
    simp only [go_sem, ↓reduceIte, Nat.reduceEqDiff, Nat.reduceLT, Nat.reduceLeDiff, Nat.reduceAdd, Nat.reduceSub, Nat.reduceMul, Nat.reduceMod, Nat.reduceDiv, Int.reduceLE, Int.reduceLT, Int.reduceToNat, Int.reduceAdd, Int.reduceSub, Int.reduceMul, Int.reduceEq, Int.reduceNeg, BitVec.reduceOfInt, BitVec.reduceToNat, BitVec.reduceEq, BitVec.reduceNe, BitVec.reduceLT, reduceCtorEq, List.forall_mem_nil, Tryd.ntmps19, Tryd.results19]
    refine goCall_pure0 (hc) ?_
    simp only [go_sem, ↓reduceIte, Nat.reduceEqDiff, Nat.reduceLT, Nat.reduceLeDiff, Nat.reduceAdd, Nat.reduceSub, Nat.reduceMul, Nat.reduceMod, Nat.reduceDiv, Int.reduceLE, Int.reduceLT, Int.reduceToNat, Int.reduceAdd, Int.reduceSub, Int.reduceMul, Int.reduceEq, Int.reduceNeg, BitVec.reduceOfInt, BitVec.reduceToNat, BitVec.reduceEq, BitVec.reduceNe, BitVec.reduceLT, reduceCtorEq, List.forall_mem_nil, hu]
  · rw [if_neg hk] at hc
    refine pure_of_vc (by kernel_rfl) (fn := Tryd.f19) (by kernel_rfl) Tryd.func19 rfl (by show 2 ≤ 62; decide) (by simp [lows, V.low]) (by simp [lows, V.low, lows_ite, low_ite]) (go_start ?_)
    simp only [go_sem, ↓reduceIte, Nat.reduceEqDiff, Nat.reduceLT, Nat.reduceLeDiff, Nat.reduceAdd, Nat.reduceSub, Nat.reduceMul, Nat.reduceMod, Nat.reduceDiv, Int.reduceLE, Int.reduceLT, Int.reduceToNat, Int.reduceAdd, Int.reduceSub, Int.reduceMul, Int.reduceEq, Int.reduceNeg, BitVec.reduceOfInt, BitVec.reduceToNat, BitVec.reduceEq, BitVec.reduceNe, BitVec.reduceLT, reduceCtorEq, List.forall_mem_nil, Tryd.ntmps19, Tryd.results19]
    refine goCall_pure0 (hc) ?_
    simp only [go_sem, ↓reduceIte, Nat.reduceEqDiff, Nat.reduceLT, Nat.reduceLeDiff, Nat.reduceAdd, Nat.reduceSub, Nat.reduceMul, Nat.reduceMod, Nat.reduceDiv, Int.reduceLE, Int.reduceLT, Int.reduceToNat, Int.reduceAdd, Int.reduceSub, Int.reduceMul, Int.reduceEq, Int.reduceNeg, BitVec.reduceOfInt, BitVec.reduceToNat, BitVec.reduceEq, BitVec.reduceNe, BitVec.reduceLT, reduceCtorEq, List.forall_mem_nil]
theorem signL_chr (Q : List (BitVec 8)) (t : Nat) : BitVec.ofInt 8 (w64 (48 + (shr64 ((Q.getD (t / 8) 0).toNat : Int) (t % 8)).tmod 2)) = signL Q t := by
  have hb : (bitL Q t).toNat = (Q.getD (t / 8) 0).toNat >>> (t % 8) % 2 := by
    unfold bitL
    rw [BitVec.toNat_and, show (1#8).toNat = 2 ^ 1 - 1 from rfl, Nat.and_two_pow_sub_one_eq_mod, BitVec.toNat_ushiftRight]
  rw [shr64_nat (by omega), show (((Q.getD (t / 8) 0).toNat >>> (t % 8) : Nat) : Int).tmod 2 = (((Q.getD (t / 8) 0).toNat >>> (t % 8) % 2 : Nat) : Int) from rfl, ← hb]
  unfold signL
  rcases bitL_two Q t with e | e
  · rw [e]; decide
  · rw [e]; decide
theorem mask31 (u : List (BitVec 8)) (hu : u.length = 32) : u.take 31 ++ [BitVec.ofInt 8 (((u.getD 31 0).toNat : Int).tmod 128)] = maskU u := by
  have e : BitVec.ofInt 8 (((u.getD 31 0).toNat : Int).tmod 128) = u.getD 31 0 &&& 127#8 := by
    rw [show ((u.getD 31 0).toNat : Int).tmod 128 = (((u.getD 31 0).toNat % 128 : Nat) : Int) from rfl, BitVec.ofInt_natCast]
    apply BitVec.eq_of_toNat_eq
    rw [BitVec.toNat_ofNat, BitVec.toNat_and, show (127#8).toNat = 2 ^ 7 - 1 from rfl, Nat.and_two_pow_sub_one_eq_mod]
    omega
  rw [e]
  unfold maskU
  have h3 := take_snoc (s := u) (i := 31) (by omega)
  rw [List.take_of_length_le (by omega)] at h3
  have hset : ∀ (l : List (BitVec 8)) (v w : BitVec 8), l.length = 31 → (l ++ [v]).set 31 w = l ++ [w] := fun l v w h => by
    rw [List.set_append_right _ _ (by omega), h]; rfl
  have h4 := hset (u.take 31) (u.getD 31 0) (u.getD 31 0 &&& 127#8) (by rw [List.length_take]; omega)
  rw [← h3] at h4
  exact h4.symm
theorem RMult_spec (k u : List (BitVec 8)) (hk : k.length = 32) (hu : u.length = 32) : PureFn Tryd.prog 19 [.str k, .str u] (.tup [.str (multB k u), .i64 0]) := by
  have hu' : (u.length : Int) = 32 := by omega
  have hc := RClamp_spec k
  rw [if_pos hk, ← clamp_eq k hk] at hc
  have hQ := clampC_length k
  rw [hk] at hQ
  have hQ' : ((clampC k).length : Int) = 32 := by omega
  unfold multB
  generalize clampC k = Q at *
  refine pure_of_vc (by kernel_rfl) (fn := Tryd.f19) (by kernel_rfl) Tryd.func19 rfl (by show 2 ≤ 62; decide) (by simp [lows, V.low]) (by simp [lows, V.low, lows_ite, low_ite]) (go_start ?_)
  simp only [go_sem, ↓reduceIte, Nat.reduceEqDiff, Nat.reduceLT, Nat.reduceLeDiff, Nat.reduceAdd, Nat.reduceSub, Nat.reduceMul, Nat.reduceMod, Nat.reduceDiv, Int.reduceLE, Int.reduceLT, Int.reduceToNat, Int.reduceAdd, Int.reduceSub, Int.reduceMul, Int.reduceEq, Int.reduceNeg, BitVec.reduceOfInt, BitVec.reduceToNat, BitVec.reduceEq, BitVec.reduceNe, BitVec.reduceLT, reduceCtorEq, List.forall_mem_nil, Tryd.ntmps19, Tryd.results19]
  refine goCall_pure0 (hc) ?_
  simp only [go_sem, ↓reduceIte, Nat.reduceEqDiff, Nat.reduceLT, Nat.reduceLeDiff, Nat.reduceAdd, Nat.reduceSub, Nat.reduceMul, Nat.reduceMod, Nat.reduceDiv, Int.reduceLE, Int.reduceLT, Int.reduceToNat, Int.reduceAdd, Int.reduceSub, Int.reduceMul, Int.reduceEq, Int.reduceNeg, BitVec.reduceOfInt, BitVec.reduceToNat, BitVec.reduceEq, BitVec.reduceNe, BitVec.reduceLT, reduceCtorEq, List.forall_mem_nil, hu', hu]
  refine go_loop (fun jc st => ∃ c : Nat, c + jc = 255 ∧ st = ⟨[(1, .str u), (6, .str Q), (8, .str (signs Q c)), (9, .i64 (254 - ((c : Nat) : Int)))], []⟩) ?_ ?_
  · exact start_mk (255) ⟨[(1, .str u), (6, .str Q), (8, .str (signs Q (0 : Nat))), (9, .i64 (254 - (((0 : Nat) : Nat) : Int)))], []⟩ (by simp [St.get, lookS, -List.map_set, -List.map_map, signs]) rfl (fun _ _ h => h) ⟨0, by omega, rfl⟩
  rintro jc st ⟨c, hc, rfl⟩ _
  simp only [go_sem, ↓reduceIte, Nat.reduceEqDiff, Nat.reduceLT, Nat.reduceLeDiff, Nat.reduceAdd, Nat.reduceSub, Nat.reduceMul, Nat.reduceMod, Nat.reduceDiv, Int.reduceLE, Int.reduceLT, Int.reduceToNat, Int.reduceAdd, Int.reduceSub, Int.reduceMul, Int.reduceEq, Int.reduceNeg, BitVec.reduceOfInt, BitVec.reduceToNat, BitVec.reduceEq, BitVec.reduceNe, BitVec.reduceLT, reduceCtorEq, List.forall_mem_nil]
  by_cases h0 : c < 255
  · have h0' : (0 : Int) ≤ 254 - (c : Int) := by omega
    have hz0 : (0 : Int) ≤ ((254 - c : Nat) : Int) := by omega
    have ec : 254 - (c : Int) = ((254 - c : Nat) : Int) := by omega
    have e1 : w64 (((254 - c : Nat) : Int) - 1) = 254 - ((c + 1 : Nat) : Int) := by rw [w64_of (by omega) (by omega)]; omega
    have m1 : w64 (((254 - c : Nat) : Int).tdiv 8) = (((254 - c) / 8 : Nat) : Int) := by rw [show (8 : Int) = ((8 : Nat) : Int) from rfl, tdiv_nat, w64_of (by omega) (by omega)]
    have m2 : ((254 - c : Nat) : Int).tmod 8 = (((254 - c) % 8 : Nat) : Int) := rfl
    have g1 : (((254 - c) / 8 : Nat) : Int) < 32 := by omega
    have z1 : (0 : Int) ≤ (((254 - c) / 8 : Nat) : Int) := by omega
    have z2 : (0 : Int) ≤ (((254 - c) % 8 : Nat) : Int) := by omega
    have hap : signs Q c ++ [signL Q (254 - c)] = signs Q (c + 1) := rfl
    have hsl := signs_length Q c
    simp only [go_sem, ↓reduceIte, Nat.reduceEqDiff, Nat.reduceLT, Nat.reduceLeDiff, Nat.reduceAdd, Nat.reduceSub, Nat.reduceMul, Nat.reduceMod, Nat.reduceDiv, Int.reduceLE, Int.reduceLT, Int.reduceToNat, Int.reduceAdd, Int.reduceSub, Int.reduceMul, Int.reduceEq, Int.reduceNeg, BitVec.reduceOfInt, BitVec.reduceToNat, BitVec.reduceEq, BitVec.reduceNe, BitVec.reduceLT, reduceCtorEq, List.forall_mem_nil, ec, hz0, m1, m2, g1, z1, z2, hQ']
    have hch := chr_spec (w64 (48 + (shr64 ((Q.getD ((254 - c) / 8) 0).toNat : Int) ((254 - c) % 8)).tmod 2))
    rw [signL_chr] at hch
    refine goCall_pure0 (hch) ?_
    simp only [go_sem, ↓reduceIte, Nat.reduceEqDiff, Nat.reduceLT, Nat.reduceLeDiff, Nat.reduceAdd, Nat.reduceSub, Nat.reduceMul, Nat.reduceMod, Nat.reduceDiv, Int.reduceLE, Int.reduceLT, Int.reduceToNat, Int.reduceAdd, Int.reduceSub, Int.reduceMul, Int.reduceEq, Int.reduceNeg, BitVec.reduceOfInt, BitVec.reduceToNat, BitVec.reduceEq, BitVec.reduceNe, BitVec.reduceLT, reduceCtorEq, List.forall_mem_nil, hap, hsl, e1]
    refine ⟨by omega, ?_⟩
    refine again_mk (jc - 1) ⟨[(1, .str u), (6, .str Q), (8, .str (signs Q (c + 1 : Nat))), (9, .i64 (254 - (((c + 1 : Nat) : Nat) : Int)))], []⟩ (by omega) ?_ rfl (fun _ _ h => h) ⟨c + 1, by omega, rfl⟩
    have hw1 : w64 ((c : Int) + 1) = ((c + 1 : Nat) : Int) := by rw [w64_of (by omega) (by omega)]; omega
    simp [St.get, lookS, hw1, -List.map_set, -List.map_map, List.length_nil]
  · obtain rfl : c = 255 := by omega
    have h0' : ¬ (0 : Int) ≤ 254 - ((255 : Nat) : Int) := by omega
    have hch := chr_spec (((u.getD 31 0).toNat : Int).tmod 128)
    have hmk := mask31 u hu
    have hml := maskU_length u
    rw [hu] at hml
    have hno := numOf_spec (maskU u) hml
    have ho := (numI_val (maskU u) hml).1
    generalize maskU u = U at *
    generalize numI U 16 = m at *
    have hsl := signs_length Q 255
    have hcl := climb_spec m (signs Q 255) ho (by omega) 255 (by omega)
    rw [List.take_of_length_le (by omega)] at hcl
    obtain ⟨o1, o2⟩ := climb_ok m (signs Q 255) ho 255
    generalize climbI m (signs Q 255) 255 = pq at *
    obtain ⟨p, q⟩ := pq
    dsimp only at *
    have hm : min 16 16 = 16 := rfl
    have hm2 : min 32 32 = 32 := rfl
    have lp : (cellsP p).length = 32 := by unfold cellsP; rw [List.length_map]; exact cellsP_len p o1
    have lq : (cellsP q).length = 32 := by unfold cellsP; rw [List.length_map]; exact cellsP_len q o2
    have cp1 : (cellsP p).take 16 = p.1.map .i64 := by unfold cellsP; rw [← List.map_take, cellsP_1 p o1]
    have cp2 : (cellsP p).drop 16 = p.2.map .i64 := by unfold cellsP; rw [← List.map_drop, cellsP_2 p o1]
    have hin := inverse_spec p.2 o1.2
    have oin := accI_ok p.2 bitsP o1.2 bitsP.length
    rw [show accI p.2 bitsP bitsP.length = invI p.2 from rfl] at oin
    have htm := timesI_spec p.1 (invI p.2) o1.1 oin
    have otm := ok_times o1.1 oin
    have htx := textI_spec _ otm
    unfold leastB
    have lp1 := o1.1.1
    have lp2 := o1.2.1
    simp only [go_sem, ↓reduceIte, Nat.reduceEqDiff, Nat.reduceLT, Nat.reduceLeDiff, Nat.reduceAdd, Nat.reduceSub, Nat.reduceMul, Nat.reduceMod, Nat.reduceDiv, Int.reduceLE, Int.reduceLT, Int.reduceToNat, Int.reduceAdd, Int.reduceSub, Int.reduceMul, Int.reduceEq, Int.reduceNeg, BitVec.reduceOfInt, BitVec.reduceToNat, BitVec.reduceEq, BitVec.reduceNe, BitVec.reduceLT, reduceCtorEq, List.forall_mem_nil, h0', hu']
    refine goCallD_pure0 (hch) ?_
    simp only [go_sem, ↓reduceIte, Nat.reduceEqDiff, Nat.reduceLT, Nat.reduceLeDiff, Nat.reduceAdd, Nat.reduceSub, Nat.reduceMul, Nat.reduceMod, Nat.reduceDiv, Int.reduceLE, Int.reduceLT, Int.reduceToNat, Int.reduceAdd, Int.reduceSub, Int.reduceMul, Int.reduceEq, Int.reduceNeg, BitVec.reduceOfInt, BitVec.reduceToNat, BitVec.reduceEq, BitVec.reduceNe, BitVec.reduceLT, reduceCtorEq, List.forall_mem_nil, hmk, hu']
    refine ⟨by omega, ?_⟩
    refine goCallD_pure0 (hno) ?_
    simp only [go_sem, ↓reduceIte, Nat.reduceEqDiff, Nat.reduceLT, Nat.reduceLeDiff, Nat.reduceAdd, Nat.reduceSub, Nat.reduceMul, Nat.reduceMod, Nat.reduceDiv, Int.reduceLE, Int.reduceLT, Int.reduceToNat, Int.reduceAdd, Int.reduceSub, Int.reduceMul, Int.reduceEq, Int.reduceNeg, BitVec.reduceOfInt, BitVec.reduceToNat, BitVec.reduceEq, BitVec.reduceNe, BitVec.reduceLT, reduceCtorEq, List.forall_mem_nil]
    refine goCallD_pure0 (hcl) ?_
    simp only [go_sem, ↓reduceIte, Nat.reduceEqDiff, Nat.reduceLT, Nat.reduceLeDiff, Nat.reduceAdd, Nat.reduceSub, Nat.reduceMul, Nat.reduceMod, Nat.reduceDiv, Int.reduceLE, Int.reduceLT, Int.reduceToNat, Int.reduceAdd, Int.reduceSub, Int.reduceMul, Int.reduceEq, Int.reduceNeg, BitVec.reduceOfInt, BitVec.reduceToNat, BitVec.reduceEq, BitVec.reduceNe, BitVec.reduceLT, reduceCtorEq, List.forall_mem_nil, lp, lq, hm2, splice_all, List.take_of_length_le]
    refine ⟨cellsP_one _, cellsP_one _, by kernel_rfl, ?_⟩
    simp only [go_sem, ↓reduceIte, Nat.reduceEqDiff, Nat.reduceLT, Nat.reduceLeDiff, Nat.reduceAdd, Nat.reduceSub, Nat.reduceMul, Nat.reduceMod, Nat.reduceDiv, Int.reduceLE, Int.reduceLT, Int.reduceToNat, Int.reduceAdd, Int.reduceSub, Int.reduceMul, Int.reduceEq, Int.reduceNeg, BitVec.reduceOfInt, BitVec.reduceToNat, BitVec.reduceEq, BitVec.reduceNe, BitVec.reduceLT, reduceCtorEq, List.forall_mem_nil, lp, lq, cp1, cp2, lp1, lp2, hm, hm2, splice_all, List.take_of_length_le]
    refine goCallD_pure0 (hin) ?_
    simp only [go_sem, ↓reduceIte, Nat.reduceEqDiff, Nat.reduceLT, Nat.reduceLeDiff, Nat.reduceAdd, Nat.reduceSub, Nat.reduceMul, Nat.reduceMod, Nat.reduceDiv, Int.reduceLE, Int.reduceLT, Int.reduceToNat, Int.reduceAdd, Int.reduceSub, Int.reduceMul, Int.reduceEq, Int.reduceNeg, BitVec.reduceOfInt, BitVec.reduceToNat, BitVec.reduceEq, BitVec.reduceNe, BitVec.reduceLT, reduceCtorEq, List.forall_mem_nil]
    refine goCallD_pure0 (htm) ?_
    simp only [go_sem, ↓reduceIte, Nat.reduceEqDiff, Nat.reduceLT, Nat.reduceLeDiff, Nat.reduceAdd, Nat.reduceSub, Nat.reduceMul, Nat.reduceMod, Nat.reduceDiv, Int.reduceLE, Int.reduceLT, Int.reduceToNat, Int.reduceAdd, Int.reduceSub, Int.reduceMul, Int.reduceEq, Int.reduceNeg, BitVec.reduceOfInt, BitVec.reduceToNat, BitVec.reduceEq, BitVec.reduceNe, BitVec.reduceLT, reduceCtorEq, List.forall_mem_nil]
    refine goCallD_pure0 (htx) ?_
    simp only [go_sem, ↓reduceIte, Nat.reduceEqDiff, Nat.reduceLT, Nat.reduceLeDiff, Nat.reduceAdd, Nat.reduceSub, Nat.reduceMul, Nat.reduceMod, Nat.reduceDiv, Int.reduceLE, Int.reduceLT, Int.reduceToNat, Int.reduceAdd, Int.reduceSub, Int.reduceMul, Int.reduceEq, Int.reduceNeg, BitVec.reduceOfInt, BitVec.reduceToNat, BitVec.reduceEq, BitVec.reduceNe, BitVec.reduceLT, reduceCtorEq, List.forall_mem_nil]
    kernel_rfl
end Go.Vm
end
section
namespace Go.Vm
open Go.Proofs
set_option maxRecDepth 20000
theorem multB_length (k u : List (BitVec 8)) : (multB k u).length = 32 := by
  unfold multB leastB
  exact leB_length _ _
def basePt : List (BitVec 8) := [9#8] ++ List.replicate 31 0#8
theorem bytes_nine : bytesOf (⟨#[9]⟩ : ByteArray) = [9#8] := rfl
theorem basePt_length : basePt.length = 32 := rfl
theorem Public_spec (k : List (BitVec 8)) (hk : k.length = 32) : PureFn Tryd.prog 9 [.str k] (.tup [.str (multB k basePt), .i64 0]) := by
  have hr := Repeat_spec 31 (by decide)
  have hm := Mult_spec k basePt hk basePt_length
  generalize multB k basePt = z at *
  unfold basePt at hm
  generalize hrr : List.replicate 31 0#8 = rr at *
  have hrl : rr.length = 31 := by rw [← hrr]; rfl
  refine pure_of_vc (by kernel_rfl) (fn := Tryd.f9) (by kernel_rfl) Tryd.func9 rfl (by show 1 ≤ 10; decide) (by simp [lows, V.low]) (by simp [lows, V.low, lows_ite, low_ite]) (go_start ?_)
  simp only [go_sem, ↓reduceIte, Nat.reduceEqDiff, Nat.reduceLT, Nat.reduceLeDiff, Nat.reduceAdd, Nat.reduceSub, Nat.reduceMul, Nat.reduceMod, Nat.reduceDiv, Int.reduceLE, Int.reduceLT, Int.reduceToNat, Int.reduceAdd, Int.reduceSub, Int.reduceMul, Int.reduceEq, Int.reduceNeg, BitVec.reduceOfInt, BitVec.reduceToNat, BitVec.reduceEq, BitVec.reduceNe, BitVec.reduceLT, reduceCtorEq, List.forall_mem_nil, Tryd.ntmps9, Tryd.results9]
  refine goCall_pure0 (hr) ?_
  simp only [go_sem, ↓reduceIte, Nat.reduceEqDiff, Nat.reduceLT, Nat.reduceLeDiff, Nat.reduceAdd, Nat.reduceSub, Nat.reduceMul, Nat.reduceMod, Nat.reduceDiv, Int.reduceLE, Int.reduceLT, Int.reduceToNat, Int.reduceAdd, Int.reduceSub, Int.reduceMul, Int.reduceEq, Int.reduceNeg, BitVec.reduceOfInt, BitVec.reduceToNat, BitVec.reduceEq, BitVec.reduceNe, BitVec.reduceLT, reduceCtorEq, List.forall_mem_nil, bytes_nine]
  refine ⟨by omega, ?_⟩
  refine goCall_pure0 (hm) ?_
  simp only [go_sem, ↓reduceIte, Nat.reduceEqDiff, Nat.reduceLT, Nat.reduceLeDiff, Nat.reduceAdd, Nat.reduceSub, Nat.reduceMul, Nat.reduceMod, Nat.reduceDiv, Int.reduceLE, Int.reduceLT, Int.reduceToNat, Int.reduceAdd, Int.reduceSub, Int.reduceMul, Int.reduceEq, Int.reduceNeg, BitVec.reduceOfInt, BitVec.reduceToNat, BitVec.reduceEq, BitVec.reduceNe, BitVec.reduceLT, reduceCtorEq, List.forall_mem_nil]
theorem Public_bad (k : List (BitVec 8)) (hk : ¬ k.length = 32) : PureFn Tryd.prog 9 [.str k] (.tup [.str [], .i64 1]) := by
  have hr := Repeat_spec 31 (by decide)
  have hm := Mult_bad k basePt (fun h => hk h.1)
  unfold basePt at hm
  generalize hrr : List.replicate 31 0#8 = rr at *
  have hrl : rr.length = 31 := by rw [← hrr]; rfl
  refine pure_of_vc (by kernel_rfl) (fn := Tryd.f9) (by kernel_rfl) Tryd.func9 rfl (by show 1 ≤ 10; decide) (by simp [lows, V.low]) (by simp [lows, V.low, lows_ite, low_ite]) (go_start ?_)
  simp only [go_sem, ↓reduceIte, Nat.reduceEqDiff, Nat.reduceLT, Nat.reduceLeDiff, Nat.reduceAdd, Nat.reduceSub, Nat.reduceMul, Nat.reduceMod, Nat.reduceDiv, Int.reduceLE, Int.reduceLT, Int.reduceToNat, Int.reduceAdd, Int.reduceSub, Int.reduceMul, Int.reduceEq, Int.reduceNeg, BitVec.reduceOfInt, BitVec.reduceToNat, BitVec.reduceEq, BitVec.reduceNe, BitVec.reduceLT, reduceCtorEq, List.forall_mem_nil, Tryd.ntmps9, Tryd.results9]
  refine goCall_pure0 (hr) ?_
  simp only [go_sem, ↓reduceIte, Nat.reduceEqDiff, Nat.reduceLT, Nat.reduceLeDiff, Nat.reduceAdd, Nat.reduceSub, Nat.reduceMul, Nat.reduceMod, Nat.reduceDiv, Int.reduceLE, Int.reduceLT, Int.reduceToNat, Int.reduceAdd, Int.reduceSub, Int.reduceMul, Int.reduceEq, Int.reduceNeg, BitVec.reduceOfInt, BitVec.reduceToNat, BitVec.reduceEq, BitVec.reduceNe, BitVec.reduceLT, reduceCtorEq, List.forall_mem_nil, bytes_nine]
  refine ⟨by omega, ?_⟩
  refine goCall_pure0 (hm) ?_
  simp only [go_sem, ↓reduceIte, Nat.reduceEqDiff, Nat.reduceLT, Nat.reduceLeDiff, Nat.reduceAdd, Nat.reduceSub, Nat.reduceMul, Nat.reduceMod, Nat.reduceDiv, Int.reduceLE, Int.reduceLT, Int.reduceToNat, Int.reduceAdd, Int.reduceSub, Int.reduceMul, Int.reduceEq, Int.reduceNeg, BitVec.reduceOfInt, BitVec.reduceToNat, BitVec.reduceEq, BitVec.reduceNe, BitVec.reduceLT, reduceCtorEq, List.forall_mem_nil]
theorem RPublic_spec (k : List (BitVec 8)) (hk : k.length = 32) : PureFn Tryd.prog 10 [.str k] (.tup [.str (multB k basePt), .i64 0]) := by
  have hr := zeros_spec 31 (by decide)
  have hc := chr_spec 9
  have hm := RMult_spec k basePt hk basePt_length
  generalize multB k basePt = z at *
  unfold basePt at hm
  generalize hrr : List.replicate 31 0#8 = rr at *
  have hrl : rr.length = 31 := by rw [← hrr]; rfl
  refine pure_of_vc (by kernel_rfl) (fn := Tryd.f10) (by kernel_rfl) Tryd.func10 rfl (by show 1 ≤ 11; decide) (by simp [lows, V.low]) (by simp [lows, V.low, lows_ite, low_ite]) (go_start ?_)
  simp only [go_sem, ↓reduceIte, Nat.reduceEqDiff, Nat.reduceLT, Nat.reduceLeDiff, Nat.reduceAdd, Nat.reduceSub, Nat.reduceMul, Nat.reduceMod, Nat.reduceDiv, Int.reduceLE, Int.reduceLT, Int.reduceToNat, Int.reduceAdd, Int.reduceSub, Int.reduceMul, Int.reduceEq, Int.reduceNeg, BitVec.reduceOfInt, BitVec.reduceToNat, BitVec.reduceEq, BitVec.reduceNe, BitVec.reduceLT, reduceCtorEq, List.forall_mem_nil, Tryd.ntmps10, Tryd.results10]
  refine goCall_pure0 (hc) ?_
  simp only [go_sem, ↓reduceIte, Nat.reduceEqDiff, Nat.reduceLT, Nat.reduceLeDiff, Nat.reduceAdd, Nat.reduceSub, Nat.reduceMul, Nat.reduceMod, Nat.reduceDiv, Int.reduceLE, Int.reduceLT, Int.reduceToNat, Int.reduceAdd, Int.reduceSub, Int.reduceMul, Int.reduceEq, Int.reduceNeg, BitVec.reduceOfInt, BitVec.reduceToNat, BitVec.reduceEq, BitVec.reduceNe, BitVec.reduceLT, reduceCtorEq, List.forall_mem_nil]
  refine goCall_pure0 (hr) ?_
  simp only [go_sem, ↓reduceIte, Nat.reduceEqDiff, Nat.reduceLT, Nat.reduceLeDiff, Nat.reduceAdd, Nat.reduceSub, Nat.reduceMul, Nat.reduceMod, Nat.reduceDiv, Int.reduceLE, Int.reduceLT, Int.reduceToNat, Int.reduceAdd, Int.reduceSub, Int.reduceMul, Int.reduceEq, Int.reduceNeg, BitVec.reduceOfInt, BitVec.reduceToNat, BitVec.reduceEq, BitVec.reduceNe, BitVec.reduceLT, reduceCtorEq, List.forall_mem_nil]
  refine ⟨by omega, ?_⟩
  refine goCall_pure0 (hm) ?_
  simp only [go_sem, ↓reduceIte, Nat.reduceEqDiff, Nat.reduceLT, Nat.reduceLeDiff, Nat.reduceAdd, Nat.reduceSub, Nat.reduceMul, Nat.reduceMod, Nat.reduceDiv, Int.reduceLE, Int.reduceLT, Int.reduceToNat, Int.reduceAdd, Int.reduceSub, Int.reduceMul, Int.reduceEq, Int.reduceNeg, BitVec.reduceOfInt, BitVec.reduceToNat, BitVec.reduceEq, BitVec.reduceNe, BitVec.reduceLT, reduceCtorEq, List.forall_mem_nil]
theorem RPublic_bad (k : List (BitVec 8)) (hk : ¬ k.length = 32) : PureFn Tryd.prog 10 [.str k] (.tup [.str [], .i64 1]) := by
  have hr := zeros_spec 31 (by decide)
  have hc := chr_spec 9
  have hm := RMult_bad k basePt (fun h => hk h.1)
  unfold basePt at hm
  generalize hrr : List.replicate 31 0#8 = rr at *
  have hrl : rr.length = 31 := by rw [← hrr]; rfl
  refine pure_of_vc (by kernel_rfl) (fn := Tryd.f10) (by kernel_rfl) Tryd.func10 rfl (by show 1 ≤ 11; decide) (by simp [lows, V.low]) (by simp [lows, V.low, lows_ite, low_ite]) (go_start ?_)
  simp only [go_sem, ↓reduceIte, Nat.reduceEqDiff, Nat.reduceLT, Nat.reduceLeDiff, Nat.reduceAdd, Nat.reduceSub, Nat.reduceMul, Nat.reduceMod, Nat.reduceDiv, Int.reduceLE, Int.reduceLT, Int.reduceToNat, Int.reduceAdd, Int.reduceSub, Int.reduceMul, Int.reduceEq, Int.reduceNeg, BitVec.reduceOfInt, BitVec.reduceToNat, BitVec.reduceEq, BitVec.reduceNe, BitVec.reduceLT, reduceCtorEq, List.forall_mem_nil, Tryd.ntmps10, Tryd.results10]
  refine goCall_pure0 (hc) ?_
  simp only [go_sem, ↓reduceIte, Nat.reduceEqDiff, Nat.reduceLT, Nat.reduceLeDiff, Nat.reduceAdd, Nat.reduceSub, Nat.reduceMul, Nat.reduceMod, Nat.reduceDiv, Int.reduceLE, Int.reduceLT, Int.reduceToNat, Int.reduceAdd, Int.reduceSub, Int.reduceMul, Int.reduceEq, Int.reduceNeg, BitVec.reduceOfInt, BitVec.reduceToNat, BitVec.reduceEq, BitVec.reduceNe, BitVec.reduceLT, reduceCtorEq, List.forall_mem_nil]
  refine goCall_pure0 (hr) ?_
  simp only [go_sem, ↓reduceIte, Nat.reduceEqDiff, Nat.reduceLT, Nat.reduceLeDiff, Nat.reduceAdd, Nat.reduceSub, Nat.reduceMul, Nat.reduceMod, Nat.reduceDiv, Int.reduceLE, Int.reduceLT, Int.reduceToNat, Int.reduceAdd, Int.reduceSub, Int.reduceMul, Int.reduceEq, Int.reduceNeg, BitVec.reduceOfInt, BitVec.reduceToNat, BitVec.reduceEq, BitVec.reduceNe, BitVec.reduceLT, reduceCtorEq, List.forall_mem_nil]
  refine ⟨by omega, ?_⟩
  refine goCall_pure0 (hm) ?_
  simp only [go_sem, ↓reduceIte, Nat.reduceEqDiff, Nat.reduceLT, Nat.reduceLeDiff, Nat.reduceAdd, Nat.reduceSub, Nat.reduceMul, Nat.reduceMod, Nat.reduceDiv, Int.reduceLE, Int.reduceLT, Int.reduceToNat, Int.reduceAdd, Int.reduceSub, Int.reduceMul, Int.reduceEq, Int.reduceNeg, BitVec.reduceOfInt, BitVec.reduceToNat, BitVec.reduceEq, BitVec.reduceNe, BitVec.reduceLT, reduceCtorEq, List.forall_mem_nil]
/-- What Share answers. -/
def shareR (k u : List (BitVec 8)) : List (BitVec 8) × Int := if k.length = 32 ∧ u.length = 32 then (if multB k u = List.replicate 32 0#8 then ([], 12) else (multB k u, 0)) else ([], 1)
theorem Share_spec (k u : List (BitVec 8)) : PureFn Tryd.prog 11 [.str k, .str u] (.tup [.str (shareR k u).1, .i64 (shareR k u).2]) := by
  unfold shareR
  by_cases h : k.length = 32 ∧ u.length = 32
  · have hm := Mult_spec k u h.1 h.2
    have hl := multB_length k u
    rw [if_pos h]
    generalize multB k u = z at *
    have ht := Trim_spec z (by omega)
    have hn := trim_nil 0#8 z
    rw [hl] at hn
    by_cases hz : z = List.replicate 32 0#8
    · rw [if_pos hz]
      have hz' := eq_true (hn.2 hz)
      clear hn hz
      refine pure_of_vc (by kernel_rfl) (fn := Tryd.f11) (by kernel_rfl) Tryd.func11 rfl (by show 2 ≤ 23; decide) (by simp [lows, V.low]) (by simp [lows, V.low, lows_ite, low_ite]) (go_start ?_)
      simp only [go_sem, ↓reduceIte, Nat.reduceEqDiff, Nat.reduceLT, Nat.reduceLeDiff, Nat.reduceAdd, Nat.reduceSub, Nat.reduceMul, Nat.reduceMod, Nat.reduceDiv, Int.reduceLE, Int.reduceLT, Int.reduceToNat, Int.reduceAdd, Int.reduceSub, Int.reduceMul, Int.reduceEq, Int.reduceNeg, BitVec.reduceOfInt, BitVec.reduceToNat, BitVec.reduceEq, BitVec.reduceNe, BitVec.reduceLT, reduceCtorEq, List.forall_mem_nil, Tryd.ntmps11, Tryd.results11]
      refine goCall_pure0 (hm) ?_
      simp only [go_sem, ↓reduceIte, Nat.reduceEqDiff, Nat.reduceLT, Nat.reduceLeDiff, Nat.reduceAdd, Nat.reduceSub, Nat.reduceMul, Nat.reduceMod, Nat.reduceDiv, Int.reduceLE, Int.reduceLT, Int.reduceToNat, Int.reduceAdd, Int.reduceSub, Int.reduceMul, Int.reduceEq, Int.reduceNeg, BitVec.reduceOfInt, BitVec.reduceToNat, BitVec.reduceEq, BitVec.reduceNe, BitVec.reduceLT, reduceCtorEq, List.forall_mem_nil]
      refine goCall_pure0 (ht) ?_
      simp only [go_sem, ↓reduceIte, Nat.reduceEqDiff, Nat.reduceLT, Nat.reduceLeDiff, Nat.reduceAdd, Nat.reduceSub, Nat.reduceMul, Nat.reduceMod, Nat.reduceDiv, Int.reduceLE, Int.reduceLT, Int.reduceToNat, Int.reduceAdd, Int.reduceSub, Int.reduceMul, Int.reduceEq, Int.reduceNeg, BitVec.reduceOfInt, BitVec.reduceToNat, BitVec.reduceEq, BitVec.reduceNe, BitVec.reduceLT, reduceCtorEq, List.forall_mem_nil, hz']
    · rw [if_neg hz]
      have hz' := eq_false (fun h => hz (hn.1 h))
      clear hn hz
      refine pure_of_vc (by kernel_rfl) (fn := Tryd.f11) (by kernel_rfl) Tryd.func11 rfl (by show 2 ≤ 23; decide) (by simp [lows, V.low]) (by simp [lows, V.low, lows_ite, low_ite]) (go_start ?_)
      simp only [go_sem, ↓reduceIte, Nat.reduceEqDiff, Nat.reduceLT, Nat.reduceLeDiff, Nat.reduceAdd, Nat.reduceSub, Nat.reduceMul, Nat.reduceMod, Nat.reduceDiv, Int.reduceLE, Int.reduceLT, Int.reduceToNat, Int.reduceAdd, Int.reduceSub, Int.reduceMul, Int.reduceEq, Int.reduceNeg, BitVec.reduceOfInt, BitVec.reduceToNat, BitVec.reduceEq, BitVec.reduceNe, BitVec.reduceLT, reduceCtorEq, List.forall_mem_nil, Tryd.ntmps11, Tryd.results11]
      refine goCall_pure0 (hm) ?_
      simp only [go_sem, ↓reduceIte, Nat.reduceEqDiff, Nat.reduceLT, Nat.reduceLeDiff, Nat.reduceAdd, Nat.reduceSub, Nat.reduceMul, Nat.reduceMod, Nat.reduceDiv, Int.reduceLE, Int.reduceLT, Int.reduceToNat, Int.reduceAdd, Int.reduceSub, Int.reduceMul, Int.reduceEq, Int.reduceNeg, BitVec.reduceOfInt, BitVec.reduceToNat, BitVec.reduceEq, BitVec.reduceNe, BitVec.reduceLT, reduceCtorEq, List.forall_mem_nil]
      refine goCall_pure0 (ht) ?_
      simp only [go_sem, ↓reduceIte, Nat.reduceEqDiff, Nat.reduceLT, Nat.reduceLeDiff, Nat.reduceAdd, Nat.reduceSub, Nat.reduceMul, Nat.reduceMod, Nat.reduceDiv, Int.reduceLE, Int.reduceLT, Int.reduceToNat, Int.reduceAdd, Int.reduceSub, Int.reduceMul, Int.reduceEq, Int.reduceNeg, BitVec.reduceOfInt, BitVec.reduceToNat, BitVec.reduceEq, BitVec.reduceNe, BitVec.reduceLT, reduceCtorEq, List.forall_mem_nil, hz']
  · have hm := Mult_bad k u h
    rw [if_neg h]
    refine pure_of_vc (by kernel_rfl) (fn := Tryd.f11) (by kernel_rfl) Tryd.func11 rfl (by show 2 ≤ 23; decide) (by simp [lows, V.low]) (by simp [lows, V.low, lows_ite, low_ite]) (go_start ?_)
    simp only [go_sem, ↓reduceIte, Nat.reduceEqDiff, Nat.reduceLT, Nat.reduceLeDiff, Nat.reduceAdd, Nat.reduceSub, Nat.reduceMul, Nat.reduceMod, Nat.reduceDiv, Int.reduceLE, Int.reduceLT, Int.reduceToNat, Int.reduceAdd, Int.reduceSub, Int.reduceMul, Int.reduceEq, Int.reduceNeg, BitVec.reduceOfInt, BitVec.reduceToNat, BitVec.reduceEq, BitVec.reduceNe, BitVec.reduceLT, reduceCtorEq, List.forall_mem_nil, Tryd.ntmps11, Tryd.results11]
    refine goCall_pure0 (hm) ?_
    simp only [go_sem, ↓reduceIte, Nat.reduceEqDiff, Nat.reduceLT, Nat.reduceLeDiff, Nat.reduceAdd, Nat.reduceSub, Nat.reduceMul, Nat.reduceMod, Nat.reduceDiv, Int.reduceLE, Int.reduceLT, Int.reduceToNat, Int.reduceAdd, Int.reduceSub, Int.reduceMul, Int.reduceEq, Int.reduceNeg, BitVec.reduceOfInt, BitVec.reduceToNat, BitVec.reduceEq, BitVec.reduceNe, BitVec.reduceLT, reduceCtorEq, List.forall_mem_nil]
theorem RShare_spec (k u : List (BitVec 8)) : PureFn Tryd.prog 12 [.str k, .str u] (.tup [.str (shareR k u).1, .i64 (shareR k u).2]) := by
  unfold shareR
  by_cases h : k.length = 32 ∧ u.length = 32
  · have hm := RMult_spec k u h.1 h.2
    rw [if_pos h]
    generalize multB k u = z at *
    have ht := zeros_spec 32 (by decide)
    by_cases hz : z = List.replicate 32 0#8
    · rw [if_pos hz]
      generalize List.replicate 32 0#8 = zz at *
      have hz' := eq_true hz
      clear hz
      refine pure_of_vc (by kernel_rfl) (fn := Tryd.f12) (by kernel_rfl) Tryd.func12 rfl (by show 2 ≤ 23; decide) (by simp [lows, V.low]) (by simp [lows, V.low, lows_ite, low_ite]) (go_start ?_)
      simp only [go_sem, ↓reduceIte, Nat.reduceEqDiff, Nat.reduceLT, Nat.reduceLeDiff, Nat.reduceAdd, Nat.reduceSub, Nat.reduceMul, Nat.reduceMod, Nat.reduceDiv, Int.reduceLE, Int.reduceLT, Int.reduceToNat, Int.reduceAdd, Int.reduceSub, Int.reduceMul, Int.reduceEq, Int.reduceNeg, BitVec.reduceOfInt, BitVec.reduceToNat, BitVec.reduceEq, BitVec.reduceNe, BitVec.reduceLT, reduceCtorEq, List.forall_mem_nil, Tryd.ntmps12, Tryd.results12]
      refine goCall_pure0 (hm) ?_
      simp only [go_sem, ↓reduceIte, Nat.reduceEqDiff, Nat.reduceLT, Nat.reduceLeDiff, Nat.reduceAdd, Nat.reduceSub, Nat.reduceMul, Nat.reduceMod, Nat.reduceDiv, Int.reduceLE, Int.reduceLT, Int.reduceToNat, Int.reduceAdd, Int.reduceSub, Int.reduceMul, Int.reduceEq, Int.reduceNeg, BitVec.reduceOfInt, BitVec.reduceToNat, BitVec.reduceEq, BitVec.reduceNe, BitVec.reduceLT, reduceCtorEq, List.forall_mem_nil]
      refine goCall_pure0 (ht) ?_
      simp only [go_sem, ↓reduceIte, Nat.reduceEqDiff, Nat.reduceLT, Nat.reduceLeDiff, Nat.reduceAdd, Nat.reduceSub, Nat.reduceMul, Nat.reduceMod, Nat.reduceDiv, Int.reduceLE, Int.reduceLT, Int.reduceToNat, Int.reduceAdd, Int.reduceSub, Int.reduceMul, Int.reduceEq, Int.reduceNeg, BitVec.reduceOfInt, BitVec.reduceToNat, BitVec.reduceEq, BitVec.reduceNe, BitVec.reduceLT, reduceCtorEq, List.forall_mem_nil, hz']
    · rw [if_neg hz]
      generalize List.replicate 32 0#8 = zz at *
      have hz' := eq_false hz
      clear hz
      refine pure_of_vc (by kernel_rfl) (fn := Tryd.f12) (by kernel_rfl) Tryd.func12 rfl (by show 2 ≤ 23; decide) (by simp [lows, V.low]) (by simp [lows, V.low, lows_ite, low_ite]) (go_start ?_)
      simp only [go_sem, ↓reduceIte, Nat.reduceEqDiff, Nat.reduceLT, Nat.reduceLeDiff, Nat.reduceAdd, Nat.reduceSub, Nat.reduceMul, Nat.reduceMod, Nat.reduceDiv, Int.reduceLE, Int.reduceLT, Int.reduceToNat, Int.reduceAdd, Int.reduceSub, Int.reduceMul, Int.reduceEq, Int.reduceNeg, BitVec.reduceOfInt, BitVec.reduceToNat, BitVec.reduceEq, BitVec.reduceNe, BitVec.reduceLT, reduceCtorEq, List.forall_mem_nil, Tryd.ntmps12, Tryd.results12]
      refine goCall_pure0 (hm) ?_
      simp only [go_sem, ↓reduceIte, Nat.reduceEqDiff, Nat.reduceLT, Nat.reduceLeDiff, Nat.reduceAdd, Nat.reduceSub, Nat.reduceMul, Nat.reduceMod, Nat.reduceDiv, Int.reduceLE, Int.reduceLT, Int.reduceToNat, Int.reduceAdd, Int.reduceSub, Int.reduceMul, Int.reduceEq, Int.reduceNeg, BitVec.reduceOfInt, BitVec.reduceToNat, BitVec.reduceEq, BitVec.reduceNe, BitVec.reduceLT, reduceCtorEq, List.forall_mem_nil]
      refine goCall_pure0 (ht) ?_
      simp only [go_sem, ↓reduceIte, Nat.reduceEqDiff, Nat.reduceLT, Nat.reduceLeDiff, Nat.reduceAdd, Nat.reduceSub, Nat.reduceMul, Nat.reduceMod, Nat.reduceDiv, Int.reduceLE, Int.reduceLT, Int.reduceToNat, Int.reduceAdd, Int.reduceSub, Int.reduceMul, Int.reduceEq, Int.reduceNeg, BitVec.reduceOfInt, BitVec.reduceToNat, BitVec.reduceEq, BitVec.reduceNe, BitVec.reduceLT, reduceCtorEq, List.forall_mem_nil, hz']
  · have hm := RMult_bad k u h
    rw [if_neg h]
    refine pure_of_vc (by kernel_rfl) (fn := Tryd.f12) (by kernel_rfl) Tryd.func12 rfl (by show 2 ≤ 23; decide) (by simp [lows, V.low]) (by simp [lows, V.low, lows_ite, low_ite]) (go_start ?_)
    simp only [go_sem, ↓reduceIte, Nat.reduceEqDiff, Nat.reduceLT, Nat.reduceLeDiff, Nat.reduceAdd, Nat.reduceSub, Nat.reduceMul, Nat.reduceMod, Nat.reduceDiv, Int.reduceLE, Int.reduceLT, Int.reduceToNat, Int.reduceAdd, Int.reduceSub, Int.reduceMul, Int.reduceEq, Int.reduceNeg, BitVec.reduceOfInt, BitVec.reduceToNat, BitVec.reduceEq, BitVec.reduceNe, BitVec.reduceLT, reduceCtorEq, List.forall_mem_nil, Tryd.ntmps12, Tryd.results12]
    refine goCall_pure0 (hm) ?_
    simp only [go_sem, ↓reduceIte, Nat.reduceEqDiff, Nat.reduceLT, Nat.reduceLeDiff, Nat.reduceAdd, Nat.reduceSub, Nat.reduceMul, Nat.reduceMod, Nat.reduceDiv, Int.reduceLE, Int.reduceLT, Int.reduceToNat, Int.reduceAdd, Int.reduceSub, Int.reduceMul, Int.reduceEq, Int.reduceNeg, BitVec.reduceOfInt, BitVec.reduceToNat, BitVec.reduceEq, BitVec.reduceNe, BitVec.reduceLT, reduceCtorEq, List.forall_mem_nil]
end Go.Vm
end
