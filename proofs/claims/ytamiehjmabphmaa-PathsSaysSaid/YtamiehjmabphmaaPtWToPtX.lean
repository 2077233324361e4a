/- A part of the proof: laws of a small machine of values, or what one function answers, proved against the model; no conditions beyond those in each theorem. -/
import Derived.RangeFuncKeeps
import Derived.RangeFuncBound
import Derived.RangeFuncLeaves
import Derived.Shelf.Abstract
import Derived.Shelf.RegionOpen
import Derived.WalkKit
import Derived.OwnWalkIn
import Derived.TacticsInMore
import Derived.Test.YtamiehjmabphmaaProg
set_option linter.unusedVariables false
set_option linter.unusedSimpArgs false
set_option linter.unusedSectionVars false
section
namespace Go.Proofs
open Go.RowKit Go.Shelf
attribute [local go_sem] Oper.semAt_some
/-- The shape of a tree: the nodes' numbers. -/
inductive Sh where
  | nil
  | node (i : Nat) (l r : Sh)
def Sh.ptr (pb po : Nat → Nat) : Sh → Option Addr
  | .nil => none
  | .node i _ _ => some ⟨pb i, po i, none⟩
def Sh.ids : Sh → List Nat
  | .nil => []
  | .node i l r => i :: (l.ids ++ r.ids)
def orBit (a n : Int) : Int := if n ≤ 32 then bits .or .u32 a (IntKind.u32.wrap (2 ^ (32 - n).toNat)) else a
def Sh.hgt : Sh → Int
  | .nil => 0
  | .node _ l r => 1 + max l.hgt r.hgt
theorem Sh.hgt_nonneg : ∀ T : Sh, 0 ≤ T.hgt
  | .nil => by simp [Sh.hgt]
  | .node _ l r => by
    have := Sh.hgt_nonneg l
    simp only [Sh.hgt]; omega
def walkL (isv : Nat → Bool) : Sh → Int → Int → List (Int × Int × Nat)
  | .nil, _, _ => []
  | .node i l r, a, n => (if isv i = true then [(a, n, i)] else []) ++ (walkL isv l a (n + 1) ++ walkL isv r (orBit a (n + 1)) (n + 1))
def Kids (pb po : Nat → Nat) (W : World) : Sh → Prop
  | .nil => True
  | .node i l r => W.cell? ⟨pb i, po i, none⟩ = some (.pointer (l.ptr pb po)) ∧ W.cell? ⟨pb i, po i + 1, none⟩ = some (.pointer (r.ptr pb po)) ∧ Kids pb po W l ∧ Kids pb po W r
def KeepX (X : List Nat) (W W' : World) : Prop := ∀ x ∈ X, W'.heap[x]? = W.heap[x]?
theorem wrap64_small {n : Int} (h0 : -9223372036854775808 ≤ n) (h1 : n ≤ 9223372036854775807) : wrap64 n = n := by
  unfold wrap64; omega
theorem wrap_i64 {n : Int} (h1 : -9223372036854775808 ≤ n) (h2 : n ≤ 9223372036854775807) : IntKind.i64.wrap n = n := by
  unfold IntKind.wrap
  have e : (2 : Int) ^ IntKind.i64.bits = 18446744073709551616 := by decide
  have e2 : (2 : Int) ^ (IntKind.i64.bits - 1) = 9223372036854775808 := by decide
  simp only [e, e2]
  by_cases h : n % 18446744073709551616 ≥ 9223372036854775808
  · rw [if_pos (by simp [IntKind.signed]; omega)]; omega
  · rw [if_neg (by simp [IntKind.signed]; omega)]; omega
theorem cellX {X : List Nat} {W W' : World} (h : KeepX X W W') {b : Nat} (hb : b ∈ X) (k : Nat) : W'.cell? ⟨b, k, none⟩ = W.cell? ⟨b, k, none⟩ := World.cell?_of_block (h b hb)
theorem frozenX {X : List Nat} {W W' : World} (h : KeepX X W W') {b : Nat} (hb : b ∈ X) (k : Nat) : W'.frozen? ⟨b, k, none⟩ = W.frozen? ⟨b, k, none⟩ := World.frozen?_of_block (h b hb)
set_option maxRecDepth 100000 in
set_option maxHeartbeats 4000000 in
theorem rest_in (F : Fence) (hd : F.depth = none) (hF : F.fn 29) (hro : F.round = none) (l : Nat) (pb po : Nat → Nat)
    (J : List Nat → List (Int × Int × Nat) → World → Prop)
    (hAl : ∀ X pre W c, J X pre W → J (W.heap.size :: X) pre (W.alloc (.cells c 32)))
    (hSet : ∀ X pre W b k v, J X pre W → b ∈ X → J X pre (W.setCell ⟨b, k, none⟩ v))
    (hDr : ∀ X pre W, J X pre W → J X pre W.drew)
    (hWk : ∀ x X pre W, J (x :: X) pre W → J X pre W)
    (hX : ∀ X pre W, J X pre W → ∀ x ∈ X, x < W.heap.size)
    (m : Nat) (a n : Int) (i B : Nat) (X : List Nat) (pre L0 L1 : List (Int × Int × Nat)) (k0 k1 : Option Addr) (W : World)
    (hK0 : ∀ X pre W, J X pre W → W.cell? ⟨pb i, po i, none⟩ = some (.pointer k0))
    (hK1 : ∀ X pre W, J X pre W → W.cell? ⟨pb i, po i + 1, none⟩ = some (.pointer k1))
    (ih0 : ∀ m X W, J X pre W → CallsIn F m Try.prog 29 #[.pointer k0, .agg #[.int .u32 a, .int .i64 (n + 1)], .func (.yield l) #[] #[]] W fun e W' => e = .returned (.bool true) ∧ J X (pre ++ L0) W' ∧ KeepX X W W')
    (ih1 : ∀ m X W, J X (pre ++ L0) W → CallsIn F m Try.prog 29 #[.pointer k1, .agg #[.int .u32 (orBit a (n + 1)), .int .i64 (n + 1)], .func (.yield l) #[] #[]] W fun e W' => e = .returned (.bool true) ∧ J X (pre ++ L0 ++ L1) W' ∧ KeepX X W W')
    (ha0 : 0 ≤ a) (ha1 : a < 4294967296) (hn0 : 0 ≤ n) (hn1 : n ≤ 32) (hJ : J (B :: X) pre W) (hBX : B ∉ X)
    (g0 : W.cell? ⟨B, 0, none⟩ = some (.int .u32 a)) (g1 : W.cell? ⟨B, 1, none⟩ = some (.int .i64 n)) (f0 : W.frozen? ⟨B, 0, none⟩ = false) (f1 : W.frozen? ⟨B, 1, none⟩ = false)
    (r0 r1 r3 c : Code) (hc : Try.f29.body = some (.seq r0 (.seq r1 (.seq r3 c))))
    (x1 x3 x5 x6 x7 x8 x9 x10 x11 x12 x13 x14 x15 x16 x17 x18 x19 x20 : Value) :
    c.wpIn F m Try.prog (bodyPost Try.prog Try.f29 fun e W' => e = .returned (.bool true) ∧ J X (pre ++ L0 ++ L1) W' ∧ KeepX X W W')
      { tmps := #[.pointer (some ⟨pb i, po i, none⟩), x1, .func (.yield l) #[] #[], x3, .pointer (some ⟨B, 0, none⟩), x5, x6, x7, x8, x9, x10, x11, x12, x13, x14, x15, x16, x17, x18, x19, x20, undef, undef, undef, undef, undef, undef, undef, undef, undef, undef, undef, undef, undef, undef, undef, undef, undef, undef, undef, undef, undef, undef, undef, undef, undef, undef, undef, undef, undef, undef, undef, undef, undef], defers := [] } W := by
  have hmx : Try.prog.follows .mixedOrders = true := by kernel_rfl
  have hw : wrap64 (n + 1) = n + 1 := wrap64_small (by omega) (by omega)
  simp only [Try.f29, Option.some.injEq, Code.seq.injEq] at hc
  obtain ⟨-, -, -, rfl⟩ := hc
  have hsz : (W.setCell ⟨B, 1, none⟩ (.int .i64 (n + 1))).heap.size = W.heap.size := by show (W.heap.modify _ _).size = _; rw [Array.size_modify]
  have hBW := hX _ _ _ hJ B (by simp)
  have hJ1 := hSet _ _ _ B 1 (.int .i64 (n + 1)) hJ (by simp)
  have hJ2 := hAl _ _ _ #[.int .u32 a, .int .i64 (n + 1)] hJ1
  rw [hsz] at hJ2
  have e0 := hK0 _ _ _ hJ2
  gi_wp2
  rename_i K1 hcK1 K2 hcK2
  have b0 : ((W.setCell ⟨B, 1, none⟩ (.int .i64 (n + 1))).alloc (.cells #[.int .u32 a, .int .i64 (n + 1)] 32)).cell? ⟨W.heap.size, 0, none⟩ = some (.int .u32 a) := by rw [World.cell?_alloc_at _ _ _ _ hsz.symm]; rfl
  have b1 : ((W.setCell ⟨B, 1, none⟩ (.int .i64 (n + 1))).alloc (.cells #[.int .u32 a, .int .i64 (n + 1)] 32)).cell? ⟨W.heap.size, 1, none⟩ = some (.int .i64 (n + 1)) := by rw [World.cell?_alloc_at _ _ _ _ hsz.symm]; rfl
  have q0 : ((W.setCell ⟨B, 1, none⟩ (.int .i64 (n + 1))).alloc (.cells #[.int .u32 a, .int .i64 (n + 1)] 32)).cell? ⟨B, 0, none⟩ = some (.int .u32 a) := by rw [World.cell?_alloc_past _ _ _ (by rw [hsz]; exact hBW), World.cell?_setCell_other _ _ _ _ (by simp)]; exact g0
  have q1 : ((W.setCell ⟨B, 1, none⟩ (.int .i64 (n + 1))).alloc (.cells #[.int .u32 a, .int .i64 (n + 1)] 32)).cell? ⟨B, 1, none⟩ = some (.int .i64 (n + 1)) := by rw [World.cell?_alloc_past _ _ _ (by rw [hsz]; exact hBW)]; exact World.cell?_setCell_same _ _ _ g1
  have p0 : ((W.setCell ⟨B, 1, none⟩ (.int .i64 (n + 1))).alloc (.cells #[.int .u32 a, .int .i64 (n + 1)] 32)).frozen? ⟨B, 0, none⟩ = false := by rw [World.frozen?_alloc_past _ _ _ (by rw [hsz]; exact hBW), World.frozen?_setCell]; exact f0
  have p1 : ((W.setCell ⟨B, 1, none⟩ (.int .i64 (n + 1))).alloc (.cells #[.int .u32 a, .int .i64 (n + 1)] 32)).frozen? ⟨B, 1, none⟩ = false := by rw [World.frozen?_alloc_past _ _ _ (by rw [hsz]; exact hBW), World.frozen?_setCell]; exact f1
  have hW2k : KeepX X W ((W.setCell ⟨B, 1, none⟩ (.int .i64 (n + 1))).alloc (.cells #[.int .u32 a, .int .i64 (n + 1)] 32)) := fun x hx => by
    rw [Below.heap_alloc _ _ _ (by rw [hsz]; exact hX _ _ _ hJ x (by simp [hx]))]
    exact Below.heap_setCell _ _ _ _ (fun e => hBX ((show x = B from e) ▸ hx))
  generalize ((W.setCell ⟨B, 1, none⟩ (.int .i64 (n + 1))).alloc (.cells #[.int .u32 a, .int .i64 (n + 1)] 32)) = W2 at *
  have i0 := ih0 (m - 1) _ _ (hDr _ _ _ hJ2)
  refine wpIn_mono (Q := fun e a' w' => e = .normal ∧ a' = { tmps := #[.pointer (some ⟨pb i, po i, none⟩), x1, .func (.yield l) #[] #[], x3, .pointer (some ⟨B, 0, none⟩), x5, x6, .pointer (some ⟨W.heap.size, 0, none⟩), x8, x9, x10, x11, x12, x13, x14, x15, x16, x17, x18, x19, x20, .pointer (some ⟨B, 1, none⟩), .int .i64 n, .int .i64 (n + 1), .pointer (some ⟨B, 1, none⟩), .agg #[.int .u32 a, .int .i64 (n + 1)], .pointer (some ⟨pb i, po i, none⟩), .pointer (some ⟨pb i, po i, none⟩), .pointer (some ⟨pb i, po i, none⟩), .pointer (some ⟨pb i, po i, none⟩), .pointer k0, .agg #[.int .u32 a, .int .i64 (n + 1)], .func (.yield l) #[] #[], .bool true, .bool false, undef, undef, undef, undef, undef, undef, undef, undef, undef, undef, undef, undef, undef, undef, undef, undef, undef, undef, undef], defers := [] } ∧ J (W.heap.size :: B :: X) (pre ++ L0) w' ∧ KeepX (W.heap.size :: B :: X) W2.drew w') ?reg ?cont
  case reg =>
    gi_region_with_o (gi_at_call 29; refine i0.mono ?_; rintro e w' ⟨rfl, hJ3, hk3⟩)
    all_goals exact ⟨rfl, rfl, hJ3, hk3⟩
  case cont =>
    rintro e a' w' ⟨rfl, rfl, hJ3, hk3⟩
    have t0 := (cellX hk3 (b := B) (by simp) 0).trans q0
    have t1 := (cellX hk3 (b := B) (by simp) 1).trans q1
    have s0 := (frozenX hk3 (b := B) (by simp) 0).trans p0
    have s1 := (frozenX hk3 (b := B) (by simp) 1).trans p1
    show K2 _ _
    refine hcK2 _ _ (wpIn_cond_false rfl (wpIn_skip ?_))
    show K1 _ _
    refine hcK1 _ _ (wpIn_seq ?_)
    refine wpIn_mono (Q := fun e a' w4 => e = .normal ∧ (∃ y35 y36 y37 y38 y39 y40 y41 y42 y43 y44 y45 : Value, a' = { tmps := #[.pointer (some ⟨pb i, po i, none⟩), x1, .func (.yield l) #[] #[], x3, .pointer (some ⟨B, 0, none⟩), x5, x6, .pointer (some ⟨W.heap.size, 0, none⟩), x8, x9, x10, x11, x12, x13, x14, x15, x16, x17, x18, x19, x20, .pointer (some ⟨B, 1, none⟩), .int .i64 n, .int .i64 (n + 1), .pointer (some ⟨B, 1, none⟩), .agg #[.int .u32 a, .int .i64 (n + 1)], .pointer (some ⟨pb i, po i, none⟩), .pointer (some ⟨pb i, po i, none⟩), .pointer (some ⟨pb i, po i, none⟩), .pointer (some ⟨pb i, po i, none⟩), .pointer k0, .agg #[.int .u32 a, .int .i64 (n + 1)], .func (.yield l) #[] #[], .bool true, .bool false, y35, y36, y37, y38, y39, y40, y41, y42, y43, y44, y45, undef, undef, undef, undef, undef, undef, undef, undef], defers := [] }) ∧ J (W.heap.size :: B :: X) (pre ++ L0) w4 ∧ w4.cell? ⟨B, 0, none⟩ = some (.int .u32 (orBit a (n + 1))) ∧ w4.cell? ⟨B, 1, none⟩ = some (.int .i64 (n + 1)) ∧ KeepX X w' w4) ?first ?second
    case first =>
      have hor : orBit a (n + 1) = if n + 1 ≤ 32 then bits .or .u32 a (IntKind.u32.wrap (2 ^ (31 - n).toNat)) else a := by
        unfold orBit; rw [show 32 - (n + 1) = 31 - n by omega]
      by_cases h32 : n + 1 ≤ 32
      · rw [if_pos h32] at hor
        have hwr : IntKind.i64.wrap (32 - (n + 1)) = 31 - n := by
          rw [show (32 : Int) - (n + 1) = 31 - n by omega]
          exact wrap_i64 (by omega) (by omega)
        have h31 : 0 ≤ 31 - n := by omega
        have h31' : ¬ (31 - n) < 0 := by omega
        have hJ4 := hDr _ _ _ (hSet _ _ _ B 0 (.int .u32 (bits .or .u32 a (IntKind.u32.wrap (2 ^ (31 - n).toNat)))) hJ3 (by simp))
        gi_wp2
        gi_region_o
        all_goals refine ⟨rfl, ⟨_, _, _, _, _, _, _, _, _, _, _, rfl⟩, hJ4, ?_, ?_, ?_⟩
        all_goals first
          | (show (World.setCell _ _ _).cell? _ = some (.int .u32 _); rw [hor]; exact World.cell?_setCell_same _ _ _ t0)
          | exact (World.cell?_setCell_other _ _ _ _ (by simp)).trans t1
          | exact fun x hx => Below.heap_setCell _ _ _ _ (fun e => hBX ((show x = B from e) ▸ hx))
      · rw [if_neg h32] at hor
        have h32' : 32 < n + 1 := by omega
        rw [← hor] at t0
        gi_wp2
        exact ⟨hJ3, fun _ _ => rfl⟩
    case second =>
      rintro e a' w4 ⟨rfl, ⟨y35, y36, y37, y38, y39, y40, y41, y42, y43, y44, y45, rfl⟩, hJ4, u0, u1, hk4⟩
      show Code.wpIn F m Try.prog _ _ _ _
      have i1 := ih1 (m - 1) _ _ (hDr _ _ _ hJ4)
      have e1 := hK1 _ _ _ hJ4
      gi_wp2
      rename_i K3 hcK3
      gi_region_with_o (gi_at_call 29; refine i1.mono ?_; rintro e w' ⟨rfl, hJ5, hk5⟩)
      all_goals refine hcK3 _ _ (wpIn_ret ?_)
      all_goals go_ret
      all_goals exact ⟨rfl, hWk _ _ _ _ (hWk _ _ _ _ hJ5), fun x hx => (hk5 x (by simp [hx])).trans ((hk4 x hx).trans ((hk3 x (by simp [hx])).trans (hW2k x hx)))⟩
end Go.Proofs
end
section
namespace Go.Proofs
open Go.RowKit Go.Shelf
attribute [local go_sem] Oper.semAt_some
theorem wrap_u32 (x : Int) : 0 ≤ IntKind.u32.wrap x ∧ IntKind.u32.wrap x < 4294967296 := by
  unfold IntKind.wrap
  have e : (2 : Int) ^ IntKind.u32.bits = 4294967296 := by decide
  simp only [e]
  simp [IntKind.signed]
  omega
theorem orBit_range {a n : Int} (h0 : 0 ≤ a) (h1 : a < 4294967296) : 0 ≤ orBit a n ∧ orBit a n < 4294967296 := by
  unfold orBit
  split
  · unfold bits
    exact wrap_u32 _
  · exact ⟨h0, h1⟩
set_option maxRecDepth 100000 in
set_option maxHeartbeats 4000000 in
theorem walk_in (F : Fence) (hd : F.depth = none) (hF : F.fn 29) (hro : F.round = none) (l : Nat) (pb po : Nat → Nat) (isv : Nat → Bool)
    (J : List Nat → List (Int × Int × Nat) → World → Prop)
    (hAl : ∀ X pre W c, J X pre W → J (W.heap.size :: X) pre (W.alloc (.cells c 32)))
    (hSet : ∀ X pre W b k v, J X pre W → b ∈ X → J X pre (W.setCell ⟨b, k, none⟩ v))
    (hDr : ∀ X pre W, J X pre W → J X pre W.drew)
    (hWk : ∀ x X pre W, J (x :: X) pre W → J X pre W)
    (hX : ∀ X pre W, J X pre W → ∀ x ∈ X, x < W.heap.size)
    (N : Nat) (hIs : ∀ X pre W i, i < N → J X pre W → i ∉ pre.map (·.2.2) → W.cell? ⟨pb i, po i + 2, none⟩ = some (.bool (isv i)))
    (hY : ∀ m X pre W a n i, i < N → J X pre W → 0 ≤ a → a < 4294967296 → 0 ≤ n → n ≤ 32 → isv i = true → i ∉ pre.map (·.2.2) → YieldAt F m Try.prog l #[.agg #[.int .u32 a, .int .i64 n], .pointer (some ⟨pb i, po i, none⟩)] W fun e W' => e = .returned (.bool true) ∧ J X (pre ++ [(a, n, i)]) W' ∧ KeepX X W W') :
    ∀ (T : Sh), (∀ X pre W, J X pre W → Kids pb po W T) → ∀ (m : Nat) (a n : Int) (X : List Nat) (pre : List (Int × Int × Nat)) (W : World), J X pre W → 0 ≤ a → a < 4294967296 → 0 ≤ n → n + T.hgt ≤ 33 → (∀ i ∈ T.ids, i ∉ pre.map (·.2.2)) → T.ids.Nodup → (∀ i ∈ T.ids, i < N) →
      CallsIn F m Try.prog 29 #[.pointer (T.ptr pb po), .agg #[.int .u32 a, .int .i64 n], .func (.yield l) #[] #[]] W fun e W' => e = .returned (.bool true) ∧ J X (pre ++ walkL isv T a n) W' ∧ KeepX X W W'
  | .nil, hK, m, a, n, X, pre, W, hJ, _, _, _, _, _, _, _ => by
    refine callsIn_of_wp Try.func29 rfl hF ?_ hro
    simp only [Try.ntmps29, Sh.ptr, List.size_toArray, List.length_cons, List.length_nil, Nat.reduceAdd, Nat.reduceSub, Array.replicate_succ, Array.replicate_zero, List.push_toArray, List.append_toArray, List.nil_append, List.cons_append]
    gi_wp2
    go_ret
    refine ⟨rfl, hWk _ _ _ _ (by simpa [walkL] using hAl _ _ _ #[.int .u32 a, .int .i64 n] hJ), fun x hx => Below.heap_alloc _ _ _ (hX _ _ _ hJ x hx)⟩
  | .node i tl tr, hK, m, a, n, X, pre, W, hJ, ha0, ha1, hn0, hn1, hpre, hnd, hN => by
    have hl0 := Sh.hgt_nonneg tl
    have hr0 := Sh.hgt_nonneg tr
    simp only [Sh.hgt] at hn1
    have hdd : ∀ k : Nat, (F.depth.isSome = true → 1 ≤ k) := fun k h => by rw [hd] at h; cases h
    obtain ⟨c0, c1, _, _⟩ := hK _ _ _ hJ
    have c2 := hIs _ _ _ i (hN i (by simp [Sh.ids])) hJ (hpre i (by simp [Sh.ids]))
    have hJ1 := hAl _ _ _ #[.int .u32 a, .int .i64 n] hJ
    obtain ⟨d0, d1, _, _⟩ := hK _ _ _ hJ1
    have d2 := hIs _ _ _ i (hN i (by simp [Sh.ids])) hJ1 (hpre i (by simp [Sh.ids]))
    have hBX : W.heap.size ∉ X := fun h => by have := hX _ _ _ hJ _ h; omega
    have ids : i ∉ tl.ids ++ tr.ids ∧ (tl.ids ++ tr.ids).Nodup := List.nodup_cons.1 hnd
    obtain ⟨ndl, ndr, ndd⟩ := List.nodup_append.1 ids.2
    have hor : 0 ≤ orBit a (n + 1) ∧ orBit a (n + 1) < 4294967296 := orBit_range ha0 ha1
    have hmem : ∀ (T : Sh) (a n : Int) x, x ∈ (walkL isv T a n).map (·.2.2) → x ∈ T.ids := by
      intro T
      induction T with
      | nil => intro a n x hx; simp [walkL] at hx
      | node j l r ihl ihr =>
        intro a n x hx
        simp only [walkL, List.map_append, List.mem_append] at hx
        simp only [Sh.ids, List.mem_cons, List.mem_append]
        rcases hx with hx | hx | hx
        · split at hx
          · left; simpa using hx
          · simp at hx
        · exact .inr (.inl (ihl _ _ _ hx))
        · exact .inr (.inr (ihr _ _ _ hx))
    have rest : ∀ (pre1 : List (Int × Int × Nat)) (W1 : World) (c : Code) (r0 r1 r3 : Code) (x1 x3 x5 x6 x7 x8 x9 x10 x11 x12 x13 x14 x15 x16 x17 x18 x19 x20 : Value), (∀ x ∈ tl.ids ++ tr.ids, x ∉ pre1.map (·.2.2)) → J (W.heap.size :: X) pre1 W1 → KeepX X W W1 →
        W1.cell? ⟨W.heap.size, 0, none⟩ = some (.int .u32 a) → W1.cell? ⟨W.heap.size, 1, none⟩ = some (.int .i64 n) → W1.frozen? ⟨W.heap.size, 0, none⟩ = false → W1.frozen? ⟨W.heap.size, 1, none⟩ = false →
        Try.f29.body = some (.seq r0 (.seq r1 (.seq r3 c))) →
        c.wpIn F m Try.prog (bodyPost Try.prog Try.f29 fun e W' => e = .returned (.bool true) ∧ J X (pre1 ++ walkL isv tl a (n + 1) ++ walkL isv tr (orBit a (n + 1)) (n + 1)) W' ∧ KeepX X W W')
          { tmps := #[.pointer (some ⟨pb i, po i, none⟩), x1, .func (.yield l) #[] #[], x3, .pointer (some ⟨W.heap.size, 0, none⟩), x5, x6, x7, x8, x9, x10, x11, x12, x13, x14, x15, x16, x17, x18, x19, x20, undef, undef, undef, undef, undef, undef, undef, undef, undef, undef, undef, undef, undef, undef, undef, undef, undef, undef, undef, undef, undef, undef, undef, undef, undef, undef, undef, undef, undef, undef, undef, undef, undef], defers := [] } W1 := by
      intro pre1 W1 c r0 r1 r3 x1 x3 x5 x6 x7 x8 x9 x10 x11 x12 x13 x14 x15 x16 x17 x18 x19 x20 hp1 hj hk g0 g1 f0 f1 hc
      have h := rest_in F hd hF hro l pb po J hAl hSet hDr hWk hX m a n i W.heap.size X pre1 (walkL isv tl a (n + 1)) (walkL isv tr (orBit a (n + 1)) (n + 1)) (tl.ptr pb po) (tr.ptr pb po) W1
        (fun X pre W h => (hK X pre W h).1) (fun X pre W h => (hK X pre W h).2.1)
        (fun m X W h => walk_in F hd hF hro l pb po isv J hAl hSet hDr hWk hX N hIs hY tl (fun X pre W h => (hK X pre W h).2.2.1) m a (n + 1) X pre1 W h ha0 ha1 (by omega) (by omega) (fun x hx => hp1 x (by simp [hx])) ndl (fun x hx => hN x (by simp [Sh.ids, hx])))
        (fun m X W h => walk_in F hd hF hro l pb po isv J hAl hSet hDr hWk hX N hIs hY tr (fun X pre W h => (hK X pre W h).2.2.2) m (orBit a (n + 1)) (n + 1) X (pre1 ++ walkL isv tl a (n + 1)) W h hor.1 hor.2 (by omega) (by omega) (fun x hx => by
          rw [List.map_append, List.mem_append]
          rintro (h | h)
          · exact hp1 x (by simp [hx]) h
          · exact ndd x (hmem _ _ _ _ h) x hx rfl) ndr (fun x hx => hN x (by simp [Sh.ids, hx])))
        ha0 ha1 hn0 (by omega) hj hBX g0 g1 f0 f1 r0 r1 r3 c hc x1 x3 x5 x6 x7 x8 x9 x10 x11 x12 x13 x14 x15 x16 x17 x18 x19 x20
      refine wpIn_mono h ?_
      intro e a' w' hq
      have up : ∀ e w', (e = Ending.returned (.bool true) ∧ J X (pre1 ++ walkL isv tl a (n + 1) ++ walkL isv tr (orBit a (n + 1)) (n + 1)) w' ∧ KeepX X W1 w') → (e = Ending.returned (.bool true) ∧ J X (pre1 ++ walkL isv tl a (n + 1) ++ walkL isv tr (orBit a (n + 1)) (n + 1)) w' ∧ KeepX X W w') := fun e w' h => ⟨h.1, h.2.1, fun x hx => (h.2.2 x hx).trans (hk x hx)⟩
      cases e with
      | normal => obtain ⟨h1, v, h2, h3⟩ := hq; exact ⟨h1, v, h2, up _ _ h3⟩
      | ret => obtain ⟨h1, v, h2, h3⟩ := hq; exact ⟨h1, v, h2, up _ _ h3⟩
      | panic ch => obtain ⟨h1, h2⟩ := hq; exact ⟨h1, up _ _ h2⟩
      | outgrown => exact up _ _ hq
      | exit id => exact hq.elim
      | goto t => exact hq.elim
    refine callsIn_of_wp Try.func29 rfl hF ?_ hro
    simp only [Try.ntmps29, Sh.ptr, List.size_toArray, List.length_cons, List.length_nil, Nat.reduceAdd, Nat.reduceSub, Array.replicate_succ, Array.replicate_zero, List.push_toArray, List.append_toArray, List.nil_append, List.cons_append]
    have dc := World.cell?_alloc_new W #[.int .u32 a, .int .i64 n] 32
    have fz := World.frozen?_alloc_new W #[.int .u32 a, .int .i64 n] 32
    have hk1 : KeepX X W (W.alloc (.cells #[.int .u32 a, .int .i64 n] 32)) := fun x hx => Below.heap_alloc _ _ _ (hX _ _ _ hJ x hx)
    have hpre2 : ∀ x ∈ tl.ids ++ tr.ids, x ∉ pre.map (·.2.2) := fun x hx => hpre x (by simp only [Sh.ids, List.mem_cons]; exact .inr hx)
    refine wpIn_seq_k fun K0 h0 => ?_
    have g0 := fun (_ : Unit) => h0
    clear h0
    gi_wp2
    refine g0 () _ _ (wpIn_seq_k fun K1 h1 => ?_)
    have g1 := fun (_ : Unit) => h1
    clear h1
    gi_wp2
    refine g1 () _ _ (wpIn_seq_k fun K2 h2 => ?_)
    have g2 := fun (_ : Unit) => h2
    clear h2
    cases his : isv i with
    | true =>
      rw [his] at c2 d2
      have hYi := hY (m - 1) _ _ _ a n i (hN i (by simp [Sh.ids])) hJ1 ha0 ha1 hn0 (by omega) his (hpre i (by simp [Sh.ids]))
      obtain ⟨fn, tmps, assign, body, hy, hR⟩ := hYi
      gi_wp2_with (first
        | ((try refine ⟨hdd _, ?_⟩); refine hR.mono ?_; clear hR; rintro e W1 ⟨rfl, hJ2, hk2⟩))
      refine g2 () _ _ ?_
      have e1 : pre ++ walkL isv (.node i tl tr) a n = pre ++ [(a, n, i)] ++ walkL isv tl a (n + 1) ++ walkL isv tr (orBit a (n + 1)) (n + 1) := by
        simp only [walkL, his, if_true, List.append_assoc]
      rw [e1]
      refine rest (pre ++ [(a, n, i)]) W1 _ _ _ _ _ _ _ _ _ _ _ _ _ _ _ _ _ _ _ _ _ _ ?_ hJ2 (fun x hx => (hk2 x (by simp [hx])).trans (hk1 x hx)) ((cellX hk2 (by simp) 0).trans (dc 0)) ((cellX hk2 (by simp) 1).trans (dc 1)) ((frozenX hk2 (by simp) 0).trans (fz 0)) ((frozenX hk2 (by simp) 1).trans (fz 1)) rfl
      intro x hx
      rw [List.map_append, List.mem_append]
      rintro (h | h)
      · exact hpre2 x hx h
      · have : x = i := by simpa using h
        exact ids.1 (this ▸ hx)
    | false =>
      rw [his] at c2 d2
      gi_wp2
      refine ⟨fun _ h => (by cases h), ?_⟩
      gi_wp2
      refine g2 () _ _ ?_
      have e1 : pre ++ walkL isv (.node i tl tr) a n = pre ++ walkL isv tl a (n + 1) ++ walkL isv tr (orBit a (n + 1)) (n + 1) := by
        simp [walkL, his, List.append_assoc]
      rw [e1]
      exact rest pre (W.alloc (.cells #[.int .u32 a, .int .i64 n] 32)) _ _ _ _ _ _ _ _ _ _ _ _ _ _ _ _ _ _ _ _ _ _ hpre2 hJ1 hk1 (dc 0) (dc 1) (fz 0) (fz 1) rfl
set_option maxRecDepth 100000 in
set_option maxHeartbeats 4000000 in
/-- (*Table).each: all that are there, in their order. -/
theorem each_in (F : Fence) (hd : F.depth = none) (hF : F.fn 29) (hF2 : F.fn 24) (hro : F.round = none) (l : Nat) (pb po : Nat → Nat) (isv : Nat → Bool)
    (J : List Nat → List (Int × Int × Nat) → World → Prop)
    (hAl : ∀ X pre W c, J X pre W → J (W.heap.size :: X) pre (W.alloc (.cells c 32)))
    (hSet : ∀ X pre W b k v, J X pre W → b ∈ X → J X pre (W.setCell ⟨b, k, none⟩ v))
    (hDr : ∀ X pre W, J X pre W → J X pre W.drew)
    (hWk : ∀ x X pre W, J (x :: X) pre W → J X pre W)
    (hX : ∀ X pre W, J X pre W → ∀ x ∈ X, x < W.heap.size)
    (N : Nat) (hIs : ∀ X pre W i, i < N → J X pre W → i ∉ pre.map (·.2.2) → W.cell? ⟨pb i, po i + 2, none⟩ = some (.bool (isv i)))
    (hY : ∀ m X pre W a n i, i < N → J X pre W → 0 ≤ a → a < 4294967296 → 0 ≤ n → n ≤ 32 → isv i = true → i ∉ pre.map (·.2.2) → YieldAt F m Try.prog l #[.agg #[.int .u32 a, .int .i64 n], .pointer (some ⟨pb i, po i, none⟩)] W fun e W' => e = .returned (.bool true) ∧ J X (pre ++ [(a, n, i)]) W' ∧ KeepX X W W')
    (tl tr : Sh) (hK : ∀ X pre W, J X pre W → Kids pb po W (.node 0 tl tr)) (m : Nat) (W : World) (hJ : J [] [] W) (hh : (Sh.node 0 tl tr).hgt ≤ 33) (hnd : (Sh.node 0 tl tr).ids.Nodup) (hN : ∀ i ∈ (Sh.node 0 tl tr).ids, i < N) :
    CallsIn F m Try.prog 24 #[.pointer (some ⟨pb 0, po 0, none⟩), .func (.yield l) #[] #[]] W fun e W' => (∃ v, e = .returned v) ∧ J [] (walkL isv (.node 0 tl tr) 0 0) W' := by
  have hw := walk_in F hd hF hro l pb po isv J hAl hSet hDr hWk hX N hIs hY (.node 0 tl tr) hK (m - 1) 0 0 [] [] W hJ (by decide) (by decide) (by decide) (by omega) (by simp) hnd hN
  have hdd : ∀ k : Nat, (F.depth.isSome = true → 1 ≤ k) := fun k h => by rw [hd] at h; cases h
  simp only [Sh.ptr] at hw
  refine callsIn_of_wp Try.func24 rfl hF2 ?_ hro
  simp only [Try.ntmps24, List.size_toArray, List.length_cons, List.length_nil, Nat.reduceAdd, Nat.reduceSub, Array.replicate_succ, Array.replicate_zero, List.push_toArray, List.append_toArray, List.nil_append, List.cons_append]
  gi_wp2_with ((try refine ⟨hdd _, ?_⟩); gi_at_call 29; refine hw.mono ?_; clear hw; rintro e W1 ⟨rfl, hJ1, _⟩)
  go_end0
  exact ⟨⟨_, rfl⟩, by simpa using hJ1⟩
end Go.Proofs
end
