/- A part of the proof: laws of a small machine of values, or what one function answers, proved against the model; no conditions beyond those in each theorem. -/
import Derived.Test.YtdghkibbiahbmaaVmR
import Derived.Test.YtdghkibbiahbmaaVmQ2
set_option linter.unusedVariables false
set_option linter.unusedSimpArgs false
set_option linter.unusedSectionVars false
namespace Go.Vm
/-! More rewriting rules for the simplifier. -/
attribute [go_sem] vfill vrep V.cells V.solid V.nat? vlow vhigh vsrc isStr eszOk srcT vappend vbuiltin vconv vaggEq tyOk V.beq1 V.low lows
theorem vone_u8 (x : BitVec 8) : V.one (.u8 x) = true := rfl
theorem vone_u32 (x : BitVec 32) : V.one (.u32 x) = true := rfl
theorem vone_u64 (x : BitVec 64) : V.one (.u64 x) = true := rfl
theorem vone_i64 (x : Int) : V.one (.i64 x) = true := rfl
theorem vone_i32 (x : Int) : V.one (.i32 x) = true := rfl
theorem vone_bool (x : Bool) : V.one (.bool x) = true := rfl
theorem vone_str (x : List Byte) : V.one (.str x) = true := rfl
theorem vone_ptr (b o : Nat) : V.one (.ptr b o) = true := rfl
theorem vone_slice (b o l e : Nat) : V.one (.slice b o l e) = true := rfl
theorem vone_fn (f : FuncId) (a c : List V) : V.one (.fn f a c) = true := rfl
theorem vone_iface (t : TypeId) (v : V) : V.one (.iface t v) = true := rfl
theorem vone_nilPtr : V.one .nilPtr = true := rfl
theorem vone_nilSlice : V.one .nilSlice = true := rfl
theorem vone_nilFn : V.one .nilFn = true := rfl
theorem vone_nilIface : V.one .nilIface = true := rfl
theorem splice_one (cs : List V) (o : Nat) (x : V) : splice cs o [x] = cs.set o x := rfl
theorem splice_nil (cs : List V) (o : Nat) : splice cs o [] = cs.take o ++ [] ++ cs.drop (o + 0) := rfl
theorem splice_two (cs : List V) (o : Nat) (x y : V) (l : List V) : splice cs o (x :: y :: l) = cs.take o ++ (x :: y :: l) ++ cs.drop (o + (x :: y :: l).length) := rfl
theorem splice_all (cs xs : List V) (h : xs.length = cs.length) : splice cs 0 xs = xs := by
  match xs, cs, h with
  | [], [], _ => rfl
  | [x], [c], _ => rfl
  | x :: y :: l, cs, h =>
    rw [splice_two, Nat.zero_add, List.drop_of_length_le (by omega)]; simp
attribute [go_sem] vone_u8 vone_u32 vone_u64 vone_i64 vone_i32 vone_bool vone_str vone_ptr vone_slice vone_fn vone_iface vone_nilPtr vone_nilSlice vone_nilFn vone_nilIface splice_one splice_nil splice_two
theorem getH_nil (b : Nat) : getH [] b = none := rfl
theorem getH_zero (x : Option Blk) (l : List (Option Blk)) : getH (x :: l) 0 = x := rfl
theorem getH_succ (x : Option Blk) (l : List (Option Blk)) (b : Nat) : getH (x :: l) (b + 1) = getH l b := rfl
theorem setOlds_cons (H : List (Option Blk)) (b : Nat) (x : Option Blk) (l : List (Nat × Option Blk)) : setOlds H ((b, x) :: l) = (setOlds H l).set b x := rfl
theorem bytesOf_nil : bytesOf { data := #[] } = [] := rfl
theorem bytesOf_mk (l : List UInt8) : bytesOf { data := l.toArray } = l.map UInt8.toBitVec := rfl
attribute [go_sem] bytesOf_nil foot List.range'_zero List.range'_one
attribute [go_sem] getH_nil getH_zero getH_succ setOlds_cons
theorem lows_ite (n : Nat) (c : Prop) [Decidable c] (a b : List V) : lows n (if c then a else b) = if c then lows n a else lows n b := apply_ite _ _ _ _
theorem low_ite (n : Nat) (c : Prop) [Decidable c] (a b : V) : (if c then a else b).low n = if c then a.low n else b.low n := apply_ite (V.low n) _ _ _
theorem evs_ite (c : Prop) [Decidable c] (a b : List V) (i : Nat) : (if c then a else b)[i]? = if c then a[i]? else b[i]? := apply_ite (fun l : List V => l[i]?) _ _ _
/-! Rows of bytes. -/
theorem getD_u8 {s : List (BitVec 8)} {i : Nat} (h : i < s.length) : (s.map V.u8).getD i .junk = .u8 (s.getD i 0) := by
  rw [List.getD_eq_getElem?_getD, List.getD_eq_getElem?_getD, List.getElem?_map, List.getElem?_eq_getElem h]; rfl
theorem set_u8 (s : List (BitVec 8)) (i : Nat) (x : BitVec 8) : (s.map V.u8).set i (.u8 x) = (s.set i x).map V.u8 := List.map_set.symm
theorem take_u8 (s : List (BitVec 8)) (i : Nat) : (s.map V.u8).take i = (s.take i).map V.u8 := List.map_take.symm
theorem drop_u8 (s : List (BitVec 8)) (i : Nat) : (s.map V.u8).drop i = (s.drop i).map V.u8 := List.map_drop.symm
theorem append_u8 (s t : List (BitVec 8)) : s.map V.u8 ++ t.map V.u8 = (s ++ t).map V.u8 := List.map_append.symm
theorem bytes_u8 (s : List (BitVec 8)) : (s.map V.u8).map V.byte = s := by
  rw [List.map_map]
  have : V.byte ∘ V.u8 = id := rfl
  rw [this, List.map_id]
theorem all_u8 (s : List (BitVec 8)) : (∀ v ∈ s.map V.u8, ∃ x, v = .u8 x) = True := by
  simp only [List.mem_map]
  exact propext ⟨fun _ => trivial, fun _ v ⟨x, _, e⟩ => ⟨x, e.symm⟩⟩
theorem one_u8 (s : List (BitVec 8)) : (∀ v ∈ s.map V.u8, v.one = true) = True := by
  refine propext ⟨fun _ => trivial, fun _ v hv => ?_⟩
  obtain ⟨x, _, rfl⟩ := List.mem_map.1 hv
  rfl
attribute [go_sem] set_u8 take_u8 drop_u8 append_u8 bytes_u8 all_u8 one_u8 V.byte List.length_map
end Go.Vm
