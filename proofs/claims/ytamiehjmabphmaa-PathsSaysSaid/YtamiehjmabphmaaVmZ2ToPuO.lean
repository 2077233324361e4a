/- A part of the proof: laws of a small machine of values, or what one function answers, proved against the model; no conditions beyond those in each theorem. -/
import Derived.Deep.Slices
import Derived.Carry
import Derived.Test.YtamiehjmabphmaaVmZToVmS
import Derived.Test.YtamiehjmabphmaaVmTToVmU
import Derived.Test.YtamiehjmabphmaaPuIToPuL
set_option linter.unusedVariables false
set_option linter.unusedSimpArgs false
set_option linter.unusedSectionVars false
section
namespace Go.Vm
open Go.ChangeShapes Go.WideShapes Go.ChangeAt Go.RowKit
/-- A value of a kind. -/
def AK.is : AK → V → Prop
  | .u8, v => ∃ x, v = .u8 x
  | .u32, v => ∃ x, v = .u32 x
  | .u64, v => ∃ x, v = .u64 x
  | .i64, v => ∃ n : Int, v = .i64 n ∧ -9223372036854775808 ≤ n ∧ n ≤ 9223372036854775807
  | .i32, v => ∃ n : Int, v = .i32 n ∧ -2147483648 ≤ n ∧ n ≤ 2147483647
  | .bool, v => ∃ b, v = .bool b
  | .str, v => ∃ s, v = .str s ∧ s.length ≤ 140737488351232
def Kinds : List AK → List V → Prop
  | [], l => l = []
  | k :: ks, l => ∃ v l', l = v :: l' ∧ k.is v ∧ Kinds ks l'
theorem Kinds.append : ∀ {ks : List AK} {ks' : List AK} {l l' : List V}, Kinds ks l → Kinds ks' l' → Kinds (ks ++ ks') (l ++ l')
  | [], _, _, _, h, h' => by unfold Kinds at h; subst h; exact h'
  | k :: ks, ks', l, l', h, h' => by
    obtain ⟨v, r, rfl, h1, h2⟩ := h
    exact ⟨v, r ++ l', rfl, h1, h2.append h'⟩
theorem Kinds.length : ∀ {ks : List AK} {l : List V}, Kinds ks l → l.length = ks.length
  | [], _, h => by unfold Kinds at h; subst h; rfl
  | _ :: _, _, h => by obtain ⟨v, r, rfl, _, h2⟩ := h; simp [h2.length]
/-- The cells of a type: what kinds they are of. -/
inductive Cells (P : Program) : TypeId → List AK → Prop
  | one (t : TypeId) (k : AK) (h : k.fits P t) : Cells P t [k]
  | struct (t : TypeId) (fs : Array Field) (kss : List (List AK)) (h : P.underlying t = some (.struct fs)) (hc : P.cellsOf t = kss.flatten.length) (hl : fs.size = kss.length)
      (ho : ∀ (i : Nat) f ks, fs[i]? = some f → kss[i]? = some ks → f.offset = (kss.take i).flatten.length ∧ P.cellsOf f.type = ks.length)
      (hf : ∀ (i : Nat) f ks, fs[i]? = some f → kss[i]? = some ks → Cells P f.type ks) : Cells P t kss.flatten
section
variable {H : Type} {enc : TypeId × Value → H} {P : Program} {W : World} {base : Nat}
/-- Whatever is known of blocks: the value reads so. -/
def VRs0 (vs : List V) (rs : List Value) : Prop := ∀ (ρ : Nat → Nat × Nat) (dom : Nat → Prop) (w : World), VRs ρ dom w vs rs
theorem cells_open {t : TypeId} {ks : List AK} (hC : Cells P t ks) : ∀ {sp : Nat → Bool} {hd : Bool} {fuel : Nat} {cs : List Value} {x : DataW H × List MemPlace}, DataW.trod enc P W base sp hd fuel t cs = some x → (x.1.weights P t).all (· ≤ reachBytes) = true →
    ∃ vs, Kinds ks vs ∧ VRs0 vs cs := by
  induction hC with
  | one t k hk =>
    intro sp hd fuel cs x h hw
    have fin : ∀ (v : V) (r : Value), k.is v → cs = [r] → (∀ ρ dom w, VR ρ dom w v r) → ∃ vs, Kinds [k] vs ∧ VRs0 vs cs := fun v r h1 h2 h3 =>
      ⟨[v], ⟨v, [], rfl, h1, rfl⟩, fun ρ dom w => by rw [h2]; exact VRs.cons (h3 ρ dom w) VRs.nil⟩
    cases k with
    | u8 =>
      obtain ⟨n, rfl, rfl, hwf⟩ := DataW.trod_int hk h
      exact fin (.u8 (BitVec.ofInt 8 n)) _ ⟨_, rfl⟩ rfl fun ρ dom w => by unfold VR; rw [← wf_uns (w := 8) hwf rfl rfl]
    | u32 =>
      obtain ⟨n, rfl, rfl, hwf⟩ := DataW.trod_int hk h
      exact fin (.u32 (BitVec.ofInt 32 n)) _ ⟨_, rfl⟩ rfl fun ρ dom w => by unfold VR; rw [← wf_uns (w := 32) hwf rfl rfl]
    | u64 =>
      obtain ⟨n, rfl, rfl, hwf⟩ := DataW.trod_int hk h
      exact fin (.u64 (BitVec.ofInt 64 n)) _ ⟨_, rfl⟩ rfl fun ρ dom w => by unfold VR; rw [← wf_uns (w := 64) hwf rfl rfl]
    | i64 =>
      obtain ⟨n, rfl, rfl, hwf⟩ := DataW.trod_int hk h
      have hw' : -9223372036854775808 ≤ n ∧ n ≤ 9223372036854775807 := by simpa [Lit.wf, IntKind.min, IntKind.max, IntKind.bits, IntKind.signed] using hwf
      exact fin (.i64 n) _ ⟨_, rfl, hw'.1, hw'.2⟩ rfl fun ρ dom w => by unfold VR; rfl
    | i32 =>
      obtain ⟨n, rfl, rfl, hwf⟩ := DataW.trod_int hk h
      have hw' : -2147483648 ≤ n ∧ n ≤ 2147483647 := by simpa [Lit.wf, IntKind.min, IntKind.max, IntKind.bits, IntKind.signed] using hwf
      exact fin (.i32 n) _ ⟨_, rfl, hw'.1, hw'.2⟩ rfl fun ρ dom w => by unfold VR; rfl
    | bool =>
      obtain ⟨b, rfl, rfl⟩ := DataW.trod_bool hk h
      exact fin (.bool b) _ ⟨_, rfl⟩ rfl fun ρ dom w => by unfold VR; rfl
    | str =>
      obtain ⟨s, rfl, rfl, _⟩ := DataW.trod_string hk h
      have hl : (bytesOf s).length ≤ 140737488351232 := by
        simp [DataW.weights, reachBytes] at hw
        simp [bytesOf]
        exact of_decide_eq_true hw
      exact fin (.str (bytesOf s)) _ ⟨_, rfl, hl⟩ rfl fun ρ dom w => by unfold VR; exact ⟨s, rfl, rfl⟩
  | struct t fs kss ht hc hl hoc hf ih =>
    intro sp hd fuel cs x h hw
    obtain ⟨xs, n, _, rfl, hcl, hxl, hfs⟩ := DataW.trod_struct ht h
    have hwe : (DataW.weightsEach P (fs.toList.map (·.type)) (xs.map (·.1))).all (· ≤ reachBytes) = true := by simpa [DataW.weights, ht] using hw
    have key : ∀ i, i ≤ kss.length → ∃ vs, Kinds (kss.take i).flatten vs ∧ VRs0 vs (cs.take (kss.take i).flatten.length) := by
      intro i
      induction i with
      | zero => intro _; exact ⟨[], rfl, fun _ _ _ => by simp; exact VRs.nil⟩
      | succ i ihi =>
        intro hi
        obtain ⟨vs, h1, h2⟩ := ihi (by omega)
        have hks : kss[i]? = some kss[i] := List.getElem?_eq_getElem (by omega)
        have hfi : fs[i]? = some fs[i] := Array.getElem?_eq_getElem (by omega)
        obtain ⟨ho, hcf⟩ := hoc i _ _ hfi hks
        have hx := hfs i _ hfi
        rw [List.getElem?_eq_getElem (by omega : i < xs.length)] at hx
        obtain ⟨us, g1, g2⟩ := ih i _ _ hfi hks hx (List.all_eq_true.2 fun m hm => by
          refine List.all_eq_true.1 hwe m (DataW.weights_mem_each (j := i) (t := fs[i].type) (d := xs[i].1) ?_ ?_ m hm)
          · rw [List.getElem?_map]; simp [hfi]
          · rw [List.getElem?_map, List.getElem?_eq_getElem (by omega : i < xs.length)]; rfl)
        have ht1 : kss.take (i + 1) = kss.take i ++ [kss[i]] := List.take_succ_eq_append_getElem (by omega)
        rw [ht1, List.flatten_append, List.flatten_singleton]
        refine ⟨vs ++ us, h1.append g1, fun ρ dom w => ?_⟩
        have := (h2 ρ dom w).append (g2 ρ dom w)
        rw [ho, hcf, ← List.take_add] at this
        rw [List.length_append]; exact this
    obtain ⟨vs, h1, h2⟩ := key kss.length (Nat.le_refl _)
    rw [List.take_length] at h1 h2
    exact ⟨vs, h1, fun ρ dom w => by have := h2 ρ dom w; rwa [List.take_of_length_le (by omega)] at this⟩
end
/-- The kinds of arguments: a cell; a struct; a slice (how many bytes an element takes). -/
inductive ArgK where
  | cell (k : AK)
  | agg (ks : List AK)
  | row (ks : List AK) (by_ : Nat)
def ArgK.fits (P : Program) (t : TypeId) : ArgK → Prop
  | .cell k => k.fits P t
  | .agg ks => Cells P t ks ∧ isRowT P t = some true
  | .row ks by_ => ∃ e, P.underlying t = some (.slice e) ∧ Cells P e ks ∧ P.cellsOf e = ks.length ∧ P.bytesOf e = by_ ∧ 0 < by_ ∧ 0 < ks.length
def ArgKs (P : Program) : List TypeId → List ArgK → Prop
  | [], [] => True
  | t :: ts, k :: ks => k.fits P t ∧ ArgKs P ts ks
  | _, _ => False
/-- Arguments of these kinds: their values; the blocks that they lead to, numbered from n on. -/
def ArgsOk : List ArgK → Nat → List V → List (Option Blk) → Prop
  | [], _, vs, h => vs = [] ∧ h = []
  | .cell k :: ks, n, vs, h => ∃ v vs', vs = v :: vs' ∧ k.is v ∧ ArgsOk ks n vs' h
  | .agg cs :: ks, n, vs, h => ∃ l vs', vs = .agg l :: vs' ∧ Kinds cs l ∧ ArgsOk ks n vs' h
  | .row cs by_ :: ks, n, vs, h => (∃ vs', vs = .nilSlice :: vs' ∧ ArgsOk ks n vs' h) ∨
      (∃ (rows : List (List V)) (vs' : List V) (hd : Option Blk) (h' : List (Option Blk)), vs = .slice n 0 rows.length cs.length :: vs' ∧ h = hd :: h' ∧ (∀ r ∈ rows, Kinds cs r) ∧ rows.length * by_ ≤ 140737488351232 ∧ (0 < rows.length → hd = some ⟨true, rows.flatten, none⟩) ∧ (rows.length = 0 → hd = none) ∧ ArgsOk ks (n + 1) vs' h')
theorem flatten_get {α : Type} {k : Nat} (hk : 0 < k) : ∀ {rows : List (List α)} (_ : ∀ r ∈ rows, r.length = k) (j : Nat), rows.flatten[j]? = (rows[j / k]?).bind fun r => r[j % k]?
  | [], _, j => by simp
  | r :: rows, h, j => by
    have hr : r.length = k := h r (by simp)
    by_cases hj : j < k
    · rw [List.flatten_cons, List.getElem?_append_left (by omega), Nat.div_eq_of_lt hj, Nat.mod_eq_of_lt hj]; rfl
    · rw [List.flatten_cons, List.getElem?_append_right (by omega), hr, flatten_get hk (fun r hr => h r (by simp [hr])) (j - k)]
      have e1 : j / k = (j - k) / k + 1 := by rw [show j = (j - k) + k by omega, Nat.add_div_right _ hk]; congr 2; omega
      have e2 : j % k = (j - k) % k := by rw [show j = (j - k) + k by omega, Nat.add_mod_right]; congr 1; omega
      rw [e1, e2]; rfl
theorem flatten_length {α : Type} {k : Nat} : ∀ {rows : List (List α)} (_ : ∀ r ∈ rows, r.length = k), rows.flatten.length = rows.length * k
  | [], _ => by simp
  | r :: rows, h => by
    rw [List.flatten_cons, List.length_append, h r (by simp), flatten_length (fun r hr => h r (by simp [hr])), List.length_cons, Nat.succ_mul]; omega
section
variable {H : Type} {enc : TypeId × Value → H} {P : Program} {W : World} {base : Nat}
theorem cells_agg {t : TypeId} {v : Value} (hr : isRowT P t = some true) (hv : Value.okWide P W .any base t v) : ∃ a, v = .agg a ∧ v.cells.toList = a.toList := by
  unfold isRowT at hr
  unfold Value.okWide at hv
  cases hu : P.underlying t with
  | none => rw [hu] at hr; simp at hr
  | some d =>
    rw [hu] at hr hv
    cases d <;> simp at hr hv
    all_goals (obtain ⟨cs, rfl, _⟩ := hv; exact ⟨cs, rfl, rfl⟩)
theorem cells_slice {t e : TypeId} {v x : Value} (ht : P.underlying t = some (.slice e)) (hv : Value.okWide P W .any base t v) (hc : v.cells.toList = [x]) : v = x := by
  cases v with
  | agg cs => simp [Value.okWide, ht, Cell.okWide, Cell.ok] at hv
  | _ => simpa [Value.cells] using hc
theorem cells_cell {t : TypeId} {k : AK} {v : Value} (hk : k.fits P t) (hv : Value.okWide P W .any base t v) : v.cells.toList = [v] := by
  cases v with
  | agg cs => cases k <;> simp [AK.fits] at hk <;> simp [Value.okWide, hk, Cell.okWide, Cell.ok] at hv
  | _ => rfl
theorem open_args2 : ∀ {ts : List TypeId} {ks : List ArgK} {args : List Value} {ds : List (DataW H)} {p : List MemPlace} (n : Nat), ArgKs P ts ks → DataW.TrodAll enc P W 0 (fun _ => true) true ts args ds p →
    (∀ (j : Nat) t v, ts[j]? = some t → args[j]? = some v → Value.okWide P W .any base t v) → (DataW.weightsEach P ts ds).all (· ≤ reachBytes) = true → W.noneFrozen p →
    ds.length = ks.length ∧ ∃ (vs : List V) (h : List (Option Blk)) (pl : List (Nat × Nat)), ArgsOk ks n vs h ∧ pl.length = h.length ∧
      (∀ (ρ : Nat → Nat × Nat) (dom : Nat → Prop), (∀ i, i < h.length → ρ (n + i) = pl.getD i (0, 0) ∧ dom (n + i)) → VRs ρ dom W vs args) ∧
      (∀ (i : Nat) B, h[i]? = some (some B) → (B.ro = true ∧ B.mp = none) ∧ (pl.getD i (0, 0)).1 < W.heap.size ∧ ∀ (j : Nat) v, B.cs[j]? = some v → ∃ r, W.cell? ⟨(pl.getD i (0, 0)).1, (pl.getD i (0, 0)).2 + j, none⟩ = some r ∧ ∀ ρ dom w, VR ρ dom w v r)
  | [], [], args, ds, p, n, _, hA, _, _, _ => by
    obtain ⟨rfl, rfl, rfl⟩ := trodAll_nil hA
    exact ⟨rfl, [], [], [], ⟨rfl, rfl⟩, rfl, fun _ _ _ => VRs.nil, fun i B h => by simp at h⟩
  | t :: ts, k :: ks, args, ds, p, n, hk, hA, hv, hs, hfz => by
    obtain ⟨v0, vs0, d0, ds0, p0, q0, rfl, rfl, rfl, h0, r0⟩ := trodAll_cons hA
    have hs' : (DataW.weights P t d0).all (· ≤ reachBytes) = true ∧ (DataW.weightsEach P ts ds0).all (· ≤ reachBytes) = true := by
      rw [DataW.weightsEach, List.all_append, Bool.and_eq_true] at hs
      exact hs
    have hfz0 : W.noneFrozen p0 := fun b o hp => hfz b o (List.mem_append_left _ hp)
    have hfz1 : W.noneFrozen q0 := fun b o hp => hfz b o (List.mem_append_right _ hp)
    have hv1 : ∀ (j : Nat) t v, ts[j]? = some t → vs0[j]? = some v → Value.okWide P W .any base t v := fun j t v h1 h2 => hv (j + 1) t v h1 h2
    have h00 := hv 0 t v0 rfl rfl
    obtain ⟨fuel, hf⟩ := h0
    cases k with
    | cell k =>
      obtain ⟨e1, vs, h, pl, g1, g2, g3, g4⟩ := open_args2 n hk.2 r0 hv1 hs'.2 hfz1
      have hk1 : k.fits P t := hk.1
      have hc := cells_cell hk1 h00
      rw [hc] at hf
      obtain ⟨us, hu1, hu2⟩ := cells_open (Cells.one t k hk1) hf hs'.1
      obtain ⟨v, us', rfl, hu3, hu4⟩ := hu1
      have hu5 : us' = [] := hu4
      subst hu5
      refine ⟨by simp [e1], v :: vs, h, pl, ⟨v, vs, rfl, hu3, g1⟩, g2, fun ρ dom hd => ?_, g4⟩
      have := hu2 ρ dom W
      unfold VRs at this
      obtain ⟨r, rs, e, k1, _⟩ := this
      injection e with e _
      subst e
      exact VRs.cons k1 (g3 ρ dom hd)
    | agg cs =>
      obtain ⟨e1, vs, h, pl, g1, g2, g3, g4⟩ := open_args2 n hk.2 r0 hv1 hs'.2 hfz1
      have hk1 : Cells P t cs ∧ isRowT P t = some true := hk.1
      obtain ⟨a, rfl, hc⟩ := cells_agg hk1.2 h00
      rw [hc] at hf
      obtain ⟨us, hu1, hu2⟩ := cells_open hk1.1 hf hs'.1
      refine ⟨by simp [e1], .agg us :: vs, h, pl, ⟨us, vs, rfl, hu1, g1⟩, g2, fun ρ dom hd => VRs.cons ?_ (g3 ρ dom hd), g4⟩
      unfold VR
      exact ⟨a, rfl, hu2 ρ dom W⟩
    | row cs by_ =>
      have hk1 : ∃ e, P.underlying t = some (.slice e) ∧ Cells P e cs ∧ P.cellsOf e = cs.length ∧ P.bytesOf e = by_ ∧ 0 < by_ ∧ 0 < cs.length := hk.1
      obtain ⟨e, ht, hC, hce, hby, hb0, hc0⟩ := hk1
      rcases Go.Deep.open_slice ht hf with ⟨h1, h2⟩ | ⟨a, len, cap, m, fu, D, Pl, h1, hbase, hlc, hcm, hm, hx, hel⟩
      · obtain ⟨e1, vs, h, pl, g1, g2, g3, g4⟩ := open_args2 n hk.2 r0 hv1 hs'.2 hfz1
        obtain rfl := cells_slice ht h00 h1
        refine ⟨by simp [e1], .nilSlice :: vs, h, pl, .inl ⟨vs, rfl, g1⟩, g2, fun ρ dom hd => VRs.cons ?_ (g3 ρ dom hd), g4⟩
        unfold VR; rfl
      · obtain ⟨e1, vs, h, pl, g1, g2, g3, g4⟩ := open_args2 (n + 1) hk.2 r0 hv1 hs'.2 hfz1
        obtain rfl := cells_slice ht h00 h1
        simp only [if_true] at hm
        subst hm
        injection hx with hx1 hx2
        subst hx1 hx2
        rw [hce] at hel hfz0
        -- the elements
        have hw : (DataW.weights P t (.slice ((List.range len).map D) ((List.range (m - len)).map fun j => D (len + j)))) = (((List.range len).map D).length + ((List.range (m - len)).map fun j => D (len + j)).length) * P.bytesOf e :: (DataW.weightsAll P e ((List.range len).map D) ++ DataW.weightsAll P e ((List.range (m - len)).map fun j => D (len + j))) := by
          simp [DataW.weights, ht]
        rw [hw, List.all_cons, Bool.and_eq_true] at hs'
        have hlen : m * by_ ≤ 140737488351232 := by
          have := of_decide_eq_true hs'.1.1
          simp only [List.length_map, List.length_range, hby] at this
          have e2 : len + (m - len) = m := by omega
          rw [e2] at this
          exact this
        have hwi : ∀ i, i < len → (DataW.weights P e (D i)).all (· ≤ reachBytes) = true := fun i hi => by
          have hall : ∀ (l : List (DataW H)) d, d ∈ l → ∀ x ∈ DataW.weights P e d, x ∈ DataW.weightsAll P e l := by
            intro l
            induction l with
            | nil => intro d hd; cases hd
            | cons y l ih =>
              intro d hd x hx
              simp only [DataW.weightsAll, List.mem_append]
              rcases List.mem_cons.1 hd with rfl | hd
              · exact .inl hx
              · exact .inr (ih d hd x hx)
          refine List.all_eq_true.2 fun x hx => List.all_eq_true.1 hs'.1.2 x (List.mem_append_left _ (hall _ (D i) (List.mem_map.2 ⟨i, by simpa using hi, rfl⟩) x hx))
        obtain ⟨F, hF⟩ := Go.Deep.choose_lt (α := List V × List Value) (n := len) (p := fun i x => W.cells? 0 (a.add (i * cs.length)) cs.length = some x.2 ∧ Kinds cs x.1 ∧ VRs0 x.1 x.2) (fun i hi => by
          obtain ⟨cs', k1, k2⟩ := hel i (by omega)
          obtain ⟨us, u1, u2⟩ := cells_open hC k2 (hwi i hi)
          exact ⟨(us, cs'), k1, u1, u2⟩)
        have hrl : ((List.range len).map fun i => (F i).1).length = len := by simp
        have hks : ∀ r ∈ (List.range len).map fun i => (F i).1, Kinds cs r := fun r hr => by
          obtain ⟨i, hi, rfl⟩ := List.mem_map.1 hr
          exact (hF i (by simpa using hi)).2.1
        have hkl : ∀ r ∈ (List.range len).map fun i => (F i).1, r.length = cs.length := fun r hr => (hks r hr).length
        -- a cell that is there: no spot
        have hspot : 0 < m → a.spot = none ∧ a.block < W.heap.size := fun hm0 => by
          obtain ⟨cs', k1, _⟩ := hel 0 hm0
          obtain ⟨_, k2, k3⟩ := World.cells?_some k1
          have k4 := k3 0 hc0
          rw [List.getElem?_eq_getElem (by omega : 0 < cs'.length)] at k4
          have k5 : (a.add (0 * cs.length)).add 0 = a := by simp [Addr.add]
          rw [k5] at k4
          exact ⟨World.cell?_spot k4, World.block_lt_of_cell? (a := a) W k4⟩
        have hcell : ∀ i j, i < m → j < cs.length → ∃ r, W.cell? ⟨a.block, a.off + (i * cs.length + j), none⟩ = some r ∧ ∀ cs', W.cells? 0 (a.add (i * cs.length)) cs.length = some cs' → cs'[j]? = some r := fun i j hi hj => by
          obtain ⟨cs', k1, _⟩ := hel i hi
          obtain ⟨_, k2, k3⟩ := World.cells?_some k1
          have k4 := k3 j hj
          rw [List.getElem?_eq_getElem (by omega : j < cs'.length)] at k4
          obtain ⟨s1, _⟩ := hspot (by omega)
          have k5 : (a.add (i * cs.length)).add j = ⟨a.block, a.off + (i * cs.length + j), none⟩ := by
            obtain ⟨b, o, sp⟩ := a
            have : sp = none := s1
            subst this
            rw [Go.WideShapes.add_plain, Go.WideShapes.add_plain, Nat.add_assoc]
          rw [k5] at k4
          refine ⟨_, k4, fun cs'' k6 => ?_⟩
          rw [k1] at k6
          injection k6 with k6
          subst k6
          exact List.getElem?_eq_getElem (by omega)
        have hslice : ∀ (ρ : Nat → Nat × Nat) (dom : Nat → Prop), ρ n = (a.block, a.off) ∧ dom n → VR ρ dom W (.slice n 0 len cs.length) (.slice (some a) len m) := fun ρ dom hd => by
          unfold VR
          refine ⟨hd.2, a, m, rfl, hlc, fun hm0 => ?_⟩
          obtain ⟨s1, s2⟩ := hspot (by omega)
          rw [hd.1]
          refine ⟨?_, fun j hj => ?_⟩
          · obtain ⟨b, o, sp⟩ := a
            have : sp = none := s1
            subst this; rfl
          · have hdiv : j / cs.length < m := Nat.div_lt_of_lt_mul (by rw [Nat.mul_comm]; exact hj)
            obtain ⟨r, c1, _⟩ := hcell (j / cs.length) (j % cs.length) hdiv (Nat.mod_lt _ hc0)
            have e2 : j / cs.length * cs.length + j % cs.length = j := by rw [Nat.mul_comm]; exact Nat.div_add_mod j cs.length
            rw [e2] at c1
            have e3 : a.off + 0 + j = a.off + j := by omega
            show (W.cell? ⟨a.block, a.off + 0 + j, none⟩).isSome = true ∧ W.frozen? ⟨a.block, a.off + 0 + j, none⟩ = false
            rw [e3, c1]
            exact ⟨rfl, hfz0 a.block (a.off + j) (List.mem_append_left _ (MemPlace.mem_row.2 ⟨j, hj, rfl⟩))⟩
        by_cases hl0 : len = 0
        · subst hl0
          refine ⟨by simp [e1], .slice n 0 0 cs.length :: vs, none :: h, (a.block, a.off) :: pl, .inr ⟨[], vs, none, h, rfl, rfl, fun r hr => (by cases hr), by simp, fun h => absurd h (by simp), fun _ => rfl, g1⟩, by simp [g2], fun ρ dom hd => VRs.cons (hslice ρ dom (hd 0 (by simp))) (g3 ρ dom fun i hi => ?_), fun i B hB => ?_⟩
          · have := hd (i + 1) (by simpa using hi)
            rw [show n + 1 + i = n + (i + 1) by omega]; simpa using this
          · cases i with
            | zero => simp at hB
            | succ i => simpa using g4 i B (by simpa using hB)
        · refine ⟨by simp [e1], .slice n 0 len cs.length :: vs, some ⟨true, ((List.range len).map fun i => (F i).1).flatten, none⟩ :: h, (a.block, a.off) :: pl, .inr ⟨(List.range len).map fun i => (F i).1, vs, _, h, by rw [hrl], rfl, hks, by
              rw [hrl]; exact Nat.le_trans (Nat.mul_le_mul_right _ hlc) hlen, fun _ => rfl, fun h => absurd (hrl ▸ h) hl0, g1⟩, by simp [g2], fun ρ dom hd => VRs.cons (hslice ρ dom (hd 0 (by simp))) (g3 ρ dom fun i hi => ?_), fun i B hB => ?_⟩
          · have := hd (i + 1) (by simpa using hi)
            rw [show n + 1 + i = n + (i + 1) by omega]; simpa using this
          · cases i with
            | zero =>
              simp at hB
              subst hB
              refine ⟨⟨rfl, rfl⟩, (hspot (by omega)).2, fun j v hj => ?_⟩
              have hj' := hj
              rw [flatten_get hc0 hkl] at hj'
              obtain ⟨row, q1, q2⟩ := Option.bind_eq_some_iff.1 hj'
              rw [List.getElem?_map] at q1
              obtain ⟨i', q3, rfl⟩ := Option.map_eq_some_iff.1 q1
              have hi' : j / cs.length < len := by
                have := (List.getElem?_eq_some_iff.1 q3).1
                simpa using this
              rw [List.getElem?_range hi'] at q3
              injection q3 with q3
              subst q3
              have hjm := Nat.mod_lt j hc0
              obtain ⟨r, c1, c2⟩ := hcell (j / cs.length) (j % cs.length) (by omega) hjm
              have e2 : j / cs.length * cs.length + j % cs.length = j := by rw [Nat.mul_comm]; exact Nat.div_add_mod j cs.length
              rw [e2] at c1
              obtain ⟨f1, f2, f3⟩ := hF (j / cs.length) hi'
              refine ⟨r, c1, fun ρ dom w => ?_⟩
              obtain ⟨r', r1, r2⟩ := (f3 ρ dom w).get q2
              rw [c2 _ f1] at r1
              injection r1 with r1
              subst r1
              exact r2
            | succ i => simpa using g4 i B (by simpa using hB)
  | [], _ :: _, _, _, _, _, h, _, _, _, _ => h.elim
  | _ :: _, [], _, _, _, _, h, _, _, _, _ => h.elim
end
end Go.Vm
end
section
namespace Go.Vm
open Go.ChangeShapes Go.WideShapes Go.ChangeAt Go.RowKit
section
variable {H : Type} {enc : TypeId × Value → H} {P : Program} {W : World} {base : Nat}
theorem trodAll_stays (hl : laidOutB P = true) {W' : World} {sp' : Nat → Bool} : ∀ {ts : List TypeId} {vs : List Value} {ds : List (DataW H)} {ps : List MemPlace}, (∀ t ∈ ts, P.readableRec t = true ∧ t < P.types.size) →
    DataW.TrodAll enc P W 0 (fun _ => true) true ts vs ds ps → (∀ p ∈ ps, W.sameAt W' p) → (∀ p ∈ ps, sp' p.block = true) → DataW.TrodAll enc P W' 0 sp' true ts vs ds ps
  | [], _, _, _, _, h, _, _ => by
    obtain ⟨rfl, rfl, rfl⟩ := trodAll_nil h
    exact trodAll_mk0
  | t :: ts, _, _, _, hr, h, hs, hp => by
    obtain ⟨v, vs, d, ds, p, q, rfl, rfl, rfl, h1, h2⟩ := trodAll_cons h
    exact trodAll_cons_mk (WideElems.Trod_stays hl (hr t (by simp)).1 (hr t (by simp)).2 h1 (fun x hx => hs x (List.mem_append_left _ hx)) (fun x hx => hp x (List.mem_append_left _ hx)))
      (trodAll_stays hl (fun t ht => hr t (by simp [ht])) h2 (fun x hx => hs x (List.mem_append_right _ hx)) (fun x hx => hp x (List.mem_append_right _ hx)))
/-- A function over blocks that are only read: of all that was there nothing turns. -/
theorem spec_calls {f : FuncId} {vs : List V} {h h' : List (Option Blk)} {pl : List (Nat × Nat)} {args : List Value} {rargs : Array Value} {b : Bool} (hs : Spec0 P f vs h (.bool b) h') (hra : rargs.toList = args)
    (hv : ∀ (ρ : Nat → Nat × Nat) (dom : Nat → Prop), (∀ i, i < h.length → ρ (0 + i) = pl.getD i (0, 0) ∧ dom (0 + i)) → VRs ρ dom W vs args)
    (hm : ∀ (i : Nat) B, h[i]? = some (some B) → (B.ro = true ∧ B.mp = none) ∧ (pl.getD i (0, 0)).1 < W.heap.size ∧ ∀ (j : Nat) v, B.cs[j]? = some v → ∃ r, W.cell? ⟨(pl.getD i (0, 0)).1, (pl.getD i (0, 0)).2 + j, none⟩ = some r ∧ ∀ ρ dom w, VR ρ dom w v r) :
    Calls P f rargs W fun e W' => e = .returned (.bool b) ∧ Below W.heap.size W W' := by
  have hro : ∀ b B, getH h b = some B → B.ro = true := fun b B e => (hm b B (getH_some e)).1.1
  refine (hs (fun i => pl.getD i (0, 0)) W rargs (by rw [hra]; exact hv _ _ fun i hi => by simpa using hi) ⟨fun b B e => getH_lt e, fun b B e => (hm b B (getH_some e)).2.1, fun b b' B B' e _ hr _ => by rw [hro b B e] at hr; simp at hr, fun b B e i v hi => ?_, fun b B e hr => by rw [hro b B e] at hr; simp at hr, fun b B mm e hmp => by rw [(hm b B (getH_some e)).1.2] at hmp; cases hmp⟩).mono ?_
  · obtain ⟨r, g1, g2⟩ := (hm b B (getH_some e)).2.2 i v hi
    exact ⟨r, g1, g2 _ _ _⟩
  · rintro e w' ⟨r, ρ', rfl, h1, _, _, _, h5⟩
    unfold VR at h1
    refine ⟨by rw [h1], h5.os, h5.tape, h5.output, h5.size, fun k hk => h5.keep k hk fun b B e hr => by rw [hro b B e] at hr; simp at hr⟩
theorem law_post2 {f : FuncId} {fn : Func} {s : ChangeSpec} {tb : TypeId} {ks : List ArgK} {args : Array Value} {ds gs : List (DataW H)} {before : List MemPlace} {fresh handsOn again : Bool}
    (hl : laidOutB P = true) (hrd : ∀ t ∈ fn.params.toList, P.readableRec t = true ∧ t < P.types.size)
    (hk : ArgKs P fn.params.toList ks) (hres : fn.resultTypes = #[tb]) (htb : P.underlying tb = some .bool) (hvars : s.vars = [])
    (hspec : ∀ ds : List (DataW H), ds.length = ks.length → (s.fn H ds).results = [.lit (.bool true)] ∧ (s.fn H ds).args = ds ∧ (s.fn H ds).vars = [])
    (hval : ∀ (j : Nat) t v, fn.params[j]? = some t → args[j]? = some v → Value.okWide P W .any base t v)
    (hW : DataW.Whole enc P fn.params.toList s.vars false W args.toList ds gs before) (hsz : (DataW.weightsEach P (fn.params.toList ++ s.plain.varTypes P) (ds ++ gs)).all (· ≤ reachBytes) = true)
    (law : ∀ vs h, ArgsOk ks 0 vs h → ∃ h', Spec0 P f vs h (.bool true) h') :
    Calls P f args W fun e W' => ∃ v, e = .returned v ∧ s.post enc P fn false fresh handsOn again W args v W' := by
  have hW' := hW
  have hlt := hW.lt
  obtain ⟨p, q, hA, hV, rfl, hfz, _⟩ := hW
  rw [hvars] at hV
  obtain ⟨rfl, rfl⟩ := trodVars_none hV
  have hs2 : (DataW.weightsEach P fn.params.toList ds).all (· ≤ reachBytes) = true := by
    have : s.plain.varTypes P = [] := by simp [ChangeSpec.plain, DataSpec.varTypes, hvars]
    rw [this, List.append_nil, List.append_nil] at hsz
    exact hsz
  simp only [List.append_nil] at hlt hfz
  obtain ⟨hdl, vs, h, pl, g1, _, g3, g4⟩ := open_args2 (base := base) 0 hk hA (fun j t v h1 h2 => hval j t v (by simpa using h1) (by simpa using h2)) hs2 hfz
  obtain ⟨k1, k2, k3⟩ := hspec ds hdl
  obtain ⟨h', hs⟩ := law vs h g1
  refine (spec_calls hs rfl g3 g4).mono fun e W' ⟨he, hg⟩ => ?_
  subst he
  have hsame : ∀ x ∈ p, W.sameAt W' x := fun x hx => hg.same (hlt x hx)
  have r1 : ∀ b sp hd, DataW.TrodAll enc P W' b sp hd fn.resultTypes.toList ((Value.bool true).resultList fn.resultTypes.size) (s.fn H (ds ++ [])).results [] := fun b sp hd => by
    rw [hres, List.append_nil, k1]; exact trodAll_cons_mk (shut_bool htb _) trodAll_mk0
  have r2 : ∀ sp : Nat → Bool, (∀ x ∈ p, sp x.block = true) → DataW.TrodAll enc P W' 0 sp true fn.params.toList args.toList (s.fn H (ds ++ [])).args p := fun sp hsp => by
    rw [List.append_nil, k2]; exact trodAll_stays hl hrd hA hsame hsp
  have r3 : ∀ sp, DataW.TrodVars enc P W' sp s.vars (s.fn H (ds ++ [])).vars [] := fun sp => by
    rw [hvars, List.append_nil, k3]; rfl
  refine ⟨_, rfl, ds, [], p ++ [], [], p, [], hW', r1 _ _ _, r2 _ (fun x hx => by simpa using hlt x hx), r3 _, hg.frame _, fun _ => ?_⟩
  refine ⟨ok_one hres rfl (okWide_bool_mk htb _), _, _, ([] ++ p) ++ [], ⟨[] ++ p, [], trodAll_append (r2 _ fun _ _ => rfl) (r1 _ _ _), r3 _, rfl, ?_, fun h => by cases h⟩, ?_⟩
  · intro b off hp
    simp only [List.nil_append, List.append_nil] at hp
    rw [hg.frozen (p := ⟨b, off, none⟩) (hlt _ hp)]
    exact hfz b off hp
  · intro x hx _
    simpa using hx
end
/-! Slices of one kind, as lists. -/
theorem rows_i64 : ∀ {rows : List (List V)}, (∀ r ∈ rows, Kinds [.i64] r) → ∃ zs : List Int, rows.flatten = zs.map V.i64 ∧ zs.length = rows.length ∧ ∀ z ∈ zs, -9223372036854775808 ≤ z ∧ z ≤ 9223372036854775807
  | [], _ => ⟨[], rfl, rfl, fun z h => by cases h⟩
  | r :: rows, h => by
    obtain ⟨zs, h1, h2, h3⟩ := rows_i64 (rows := rows) fun r hr => h r (by simp [hr])
    obtain ⟨v, l, rfl, ⟨n, rfl, hn⟩, hl⟩ := h r (by simp)
    have hl' : l = [] := hl
    subst hl'
    exact ⟨n :: zs, by simp [h1], by simp [h2], fun z hz => by rcases List.mem_cons.1 hz with rfl | hz; exact hn; exact h3 z hz⟩
theorem rows_u32 : ∀ {rows : List (List V)}, (∀ r ∈ rows, Kinds [.u32] r) → ∃ zs : List (BitVec 32), rows.flatten = zs.map V.u32 ∧ zs.length = rows.length
  | [], _ => ⟨[], rfl, rfl⟩
  | r :: rows, h => by
    obtain ⟨zs, h1, h2⟩ := rows_u32 (rows := rows) fun r hr => h r (by simp [hr])
    obtain ⟨v, l, rfl, ⟨n, rfl⟩, hl⟩ := h r (by simp)
    have hl' : l = [] := hl
    subst hl'
    exact ⟨n :: zs, by simp [h1], by simp [h2]⟩
end Go.Vm
namespace Go.Vm
theorem row_at {α : Type} {k : Nat} (hk : 0 < k) {rows : List (List α)} (h : ∀ r ∈ rows, r.length = k) {i : Nat} (hi : i < rows.length) : (rows.flatten.drop (i * k)).take k = rows.getD i [] := by
  have hr : (rows.getD i []).length = k := by
    rw [List.getD_eq_getElem?_getD, List.getElem?_eq_getElem hi]
    exact h _ (List.getElem_mem hi)
  refine List.ext_getElem? fun j => ?_
  by_cases hj : j < k
  · rw [List.getElem?_take_of_lt hj, List.getElem?_drop, flatten_get hk h]
    have e1 : (i * k + j) / k = i := by rw [Nat.mul_comm, Nat.mul_add_div hk, Nat.div_eq_of_lt hj, Nat.add_zero]
    have e2 : (i * k + j) % k = j := by rw [Nat.mul_comm, Nat.mul_add_mod, Nat.mod_eq_of_lt hj]
    rw [e1, e2, List.getElem?_eq_getElem hi, List.getD_eq_getElem?_getD, List.getElem?_eq_getElem hi]; rfl
  · rw [List.getElem?_eq_none (by simp; omega), List.getElem?_eq_none (by omega)]
/-- A step's cells. -/
theorem step_row {r : List V} (h : Kinds [.i64, .i64, .i64, .u32, .u32, .str, .u32, .i64] r) : ∃ (k a b : Int) (n m : BitVec 32) (s : List (BitVec 8)) (ad : BitVec 32) (bt : Int),
    r = [.i64 k, .i64 a, .i64 b, .u32 n, .u32 m, .str s, .u32 ad, .i64 bt] ∧ (-9223372036854775808 ≤ k ∧ k ≤ 9223372036854775807) ∧ (-9223372036854775808 ≤ a ∧ a ≤ 9223372036854775807) ∧ (-9223372036854775808 ≤ b ∧ b ≤ 9223372036854775807) ∧ s.length ≤ 140737488351232 ∧ (-9223372036854775808 ≤ bt ∧ bt ≤ 9223372036854775807) := by
  obtain ⟨_, _, rfl, ⟨k, rfl, hk⟩, _, _, rfl, ⟨a, rfl, ha⟩, _, _, rfl, ⟨b, rfl, hb⟩, _, _, rfl, ⟨n, rfl⟩, _, _, rfl, ⟨m, rfl⟩, _, _, rfl, ⟨s, rfl, hs⟩, _, _, rfl, ⟨ad, rfl⟩, _, _, rfl, ⟨bt, rfl, hbt⟩, rfl⟩ := h
  exact ⟨k, a, b, n, m, s, ad, bt, rfl, hk, ha, hb, hs, hbt⟩
end Go.Vm
namespace Go.Vm
theorem AK.plain {k : AK} {v : V} (h : k.is v) : (∀ σ, v.ren σ = v) ∧ ∀ N, v.low N := by
  cases k <;> unfold AK.is at h
  · obtain ⟨x, rfl⟩ := h; exact ⟨fun _ => by unfold V.ren; rfl, fun _ => by unfold V.low; trivial⟩
  · obtain ⟨x, rfl⟩ := h; exact ⟨fun _ => by unfold V.ren; rfl, fun _ => by unfold V.low; trivial⟩
  · obtain ⟨x, rfl⟩ := h; exact ⟨fun _ => by unfold V.ren; rfl, fun _ => by unfold V.low; trivial⟩
  · obtain ⟨x, rfl, _⟩ := h; exact ⟨fun _ => by unfold V.ren; rfl, fun _ => by unfold V.low; trivial⟩
  · obtain ⟨x, rfl, _⟩ := h; exact ⟨fun _ => by unfold V.ren; rfl, fun _ => by unfold V.low; trivial⟩
  · obtain ⟨x, rfl⟩ := h; exact ⟨fun _ => by unfold V.ren; rfl, fun _ => by unfold V.low; trivial⟩
  · obtain ⟨x, rfl, _⟩ := h; exact ⟨fun _ => by unfold V.ren; rfl, fun _ => by unfold V.low; trivial⟩
theorem Kinds.plain : ∀ {ks : List AK} {l : List V}, Kinds ks l → (∀ σ, rens σ l = l) ∧ ∀ N, lows N l
  | [], _, h => by unfold Kinds at h; subst h; exact ⟨fun _ => rfl, fun _ => trivial⟩
  | k :: ks, _, h => by
    obtain ⟨v, r, rfl, h1, h2⟩ := h
    have p1 := AK.plain h1
    have p2 := h2.plain
    exact ⟨fun σ => by unfold rens; rw [p1.1, p2.1], fun N => ⟨p1.2 N, p2.2 N⟩⟩
theorem plains_flat {ks : List AK} : ∀ {rows : List (List V)}, (∀ r ∈ rows, Kinds ks r) → (∀ σ, rens σ rows.flatten = rows.flatten) ∧ ∀ N, lows N rows.flatten
  | [], _ => ⟨fun _ => rfl, fun _ => trivial⟩
  | r :: rows, h => by
    have p1 := (h r (by simp)).plain
    have p2 := plains_flat (rows := rows) fun r hr => h r (by simp [hr])
    rw [List.flatten_cons]
    exact ⟨fun σ => by rw [rens_append, p1.1, p2.1], fun N => by rw [lows_append]; exact ⟨p1.2 N, p2.2 N⟩⟩
end Go.Vm
namespace Go.Vm
/-- A pure function over no blocks. -/
theorem pure_spec0 {P : Program} {f : FuncId} {args : List V} {v : V} (h : PureFn P f args v) : Spec0 P f args [] v [] := fun ρ w rargs hr hm => by
  refine (h.2 (fun _ => none) 0 ρ (· < 0) (getH []) w rargs hm hr (fun _ _ => by simp [getH]) (fun b _ h => by simp at h)).mono ?_
  rintro e w' ⟨r, ρ', rfl, h1, h2, h3, h4⟩
  rw [upd_nil] at h2 h4
  refine ⟨r, ρ', rfl, h3.mono (fun _ _ => rfl) (fun b hb => ?_) (Lasts.refl _), ⟨fun b B e => by simp [getH] at e, fun b B e => by simp [getH] at e, fun b b' B B' e => by simp [getH] at e, fun b B e => by simp [getH] at e, fun b B e => by simp [getH] at e, fun b B mm e => by simp [getH] at e⟩, Nat.le_refl _, fun b hb => h1 b hb, h4⟩
  rcases hb with hb | hb
  · exact hb
  · exact absurd hb.2 (by simp)
end Go.Vm
end
section
-- NIDP
namespace Go.Vm
open Go.Proofs
set_option maxRecDepth 20000
set_option maxRecDepth 20000
/-- An argument that is a row. -/
def ArgV (h : List (Option Blk)) (cs : List AK) (v : V) (rows : List (List V)) : Prop :=
  (∀ r ∈ rows, Kinds cs r) ∧ rows.length ≤ 140737488351232 ∧ ((v = .nilSlice ∧ rows = []) ∨ ∃ b, b < h.length ∧ v = .slice b 0 rows.length cs.length ∧ (0 < rows.length → getH h b = some ⟨true, rows.flatten, none⟩))
theorem ask_row {r : List V} (h : Kinds [.u32] r) : ∃ a, r = [.u32 a] := by
  obtain ⟨_, _, rfl, ⟨a, rfl⟩, rfl⟩ := h
  exact ⟨a, rfl⟩
theorem ask_flat {rows : List (List V)} (h : ∀ r ∈ rows, Kinds [.u32] r) {i : Nat} (hi : i < rows.length) : ∃ a, rows.flatten.getD i .junk = .u32 a ∧ i < rows.flatten.length := by
  have hl : ∀ r ∈ rows, r.length = 1 := fun r hr => (h r hr).length
  obtain ⟨a, ha⟩ := ask_row (h rows[i] (List.getElem_mem hi))
  refine ⟨a, ?_, by rw [flatten_length hl]; omega⟩
  rw [List.getD_eq_getElem?_getD, flatten_get (by decide) hl, Nat.div_one, Nat.mod_one, List.getElem?_eq_getElem hi, ha]
  rfl
set_option maxHeartbeats 2000000 in
theorem ps_finds (h : List (Option Blk)) {pos : Nat → Nat} {many : Int} {A : List Nd} {l r : Sh} {ub sb : Nat} {L : List Pe} {H : List (Option Blk)} {t : List (Nat × V)} {v1 : V} {asks : List (List V)} (ha : ArgV h [.u32] v1 asks) (hI : TInv many A l r L) (hB : BothM h pos many A ub sb L H)
    (h1 : lookS t 1 = v1) (h5 : lookS t 5 = .ptr (pos 0) 0) (h6 : lookS t 6 = .ptr ub 0) (r0 r1 r2 r4 r13 c : Code) (hc : Try.f4.body = some (.seq r0 (.seq r1 (.seq r2 (.seq r4 (.seq r13 c)))))) : vc Try.prog h.length 90 (.seq r13 c) (PsQ h) ⟨t, H⟩ := by
  have tail := fun (t : List (Nat × V)) (H : List (Option Blk)) (hB : BothM h pos many A ub sb L H) (h5 : lookS t 5 = .ptr (pos 0) 0) (h6 : lookS t 6 = .ptr ub 0) => ps_tail h hI hB h5 h6 r0 r1 r2 r4 r13 c hc
  simp only [Try.f4, Option.some.injEq, Code.seq.injEq] at hc
  obtain ⟨-, -, -, -, rfl, hc⟩ := hc
  clear hc
  show vc _ _ _ _ (seqQ (vc Try.prog h.length 90 c (PsQ h)) (PsQ h)) _
  obtain ⟨hk, hlen, hv⟩ := ha
  rcases hv with ⟨rfl, rfl⟩ | ⟨b, hb, rfl, hg⟩
  · refine go_start ?_
    simp -implicitDefEqProofs only [go_sem, ↓reduceIte, Nat.reduceEqDiff, Nat.reduceLT, Nat.reduceLeDiff, Nat.reduceAdd, Nat.reduceSub, Nat.reduceMul, Nat.reduceMod, Nat.reduceDiv, Int.reduceLE, Int.reduceLT, Int.reduceToNat, Int.reduceAdd, Int.reduceSub, Int.reduceMul, Int.reduceEq, Int.reduceNeg, BitVec.reduceOfInt, BitVec.reduceToNat, BitVec.reduceEq, BitVec.reduceNe, BitVec.reduceLT, reduceCtorEq, List.forall_mem_nil, h1, h5, h6]
    refine go_unroll 1 ?_
    simp -implicitDefEqProofs only [go_sem, ↓reduceIte, Nat.reduceEqDiff, Nat.reduceLT, Nat.reduceLeDiff, Nat.reduceAdd, Nat.reduceSub, Nat.reduceMul, Nat.reduceMod, Nat.reduceDiv, Int.reduceLE, Int.reduceLT, Int.reduceToNat, Int.reduceAdd, Int.reduceSub, Int.reduceMul, Int.reduceEq, Int.reduceNeg, BitVec.reduceOfInt, BitVec.reduceToNat, BitVec.reduceEq, BitVec.reduceNe, BitVec.reduceLT, reduceCtorEq, List.forall_mem_nil, h1, h5, h6]
    exact tail _ H hB (by simp [lookS, h5]) (by simp [lookS, h6])
  · refine go_start ?_
    simp -implicitDefEqProofs only [go_sem, ↓reduceIte, Nat.reduceEqDiff, Nat.reduceLT, Nat.reduceLeDiff, Nat.reduceAdd, Nat.reduceSub, Nat.reduceMul, Nat.reduceMod, Nat.reduceDiv, Int.reduceLE, Int.reduceLT, Int.reduceToNat, Int.reduceAdd, Int.reduceSub, Int.reduceMul, Int.reduceEq, Int.reduceNeg, BitVec.reduceOfInt, BitVec.reduceToNat, BitVec.reduceEq, BitVec.reduceNe, BitVec.reduceLT, reduceCtorEq, List.forall_mem_nil, h1, h5, h6]
    refine go_loop (fun j st => ∃ (i : Nat) (H : List (Option Blk)), i + j = asks.length ∧ BothM h pos many A ub sb L H ∧
      st = ⟨[(1, .slice b 0 asks.length 1), (5, .ptr (pos 0) 0), (6, .ptr ub 0), (52, .slice b 0 asks.length 1), (53, .i64 asks.length), (54, .i64 i)], H⟩) ?_ ?_
    · exact start_mk asks.length ⟨[(1, .slice b 0 asks.length 1), (5, .ptr (pos 0) 0), (6, .ptr ub 0), (52, .slice b 0 asks.length 1), (53, .i64 asks.length), (54, .i64 (0 : Nat))], H⟩ (by simp [St.get, lookS, h1, h5, h6]) rfl (fun _ _ h => h) ⟨0, H, by omega, hB, rfl⟩
    rintro j st ⟨i, H, hij, hB, rfl⟩ _
    by_cases hi : i < asks.length
    · have hi' : (i : Int) < (asks.length : Int) := by omega
      have hw1 : w64 ((i : Int) + 1) = ((i + 1 : Nat) : Int) := by rw [w64_of (by omega) (by omega)]; omega
      have hgb : getH H b = some ⟨true, asks.flatten, none⟩ := (hB.arg b hb).trans (hg (by omega))
      obtain ⟨a, hga, hfl⟩ := ask_flat hk hi
      obtain ⟨x, y, hF, hR⟩ := hI.find_law a
      simp -implicitDefEqProofs only [go_sem, ↓reduceIte, Nat.reduceEqDiff, Nat.reduceLT, Nat.reduceLeDiff, Nat.reduceAdd, Nat.reduceSub, Nat.reduceMul, Nat.reduceMod, Nat.reduceDiv, Int.reduceLE, Int.reduceLT, Int.reduceToNat, Int.reduceAdd, Int.reduceSub, Int.reduceMul, Int.reduceEq, Int.reduceNeg, BitVec.reduceOfInt, BitVec.reduceToNat, BitVec.reduceEq, BitVec.reduceNe, BitVec.reduceLT, reduceCtorEq, List.forall_mem_nil, hi', hgb, hga]
      refine ⟨by omega, hfl, ?_⟩
      refine goCall_keep (sgT pos A.length) (.tup [.i64 x, .bool y]) hF (by kernel_rfl) (sg0 hI.top _ (fun _ => rfl)) (by rw [sgT_length, treeB_length]) ⟨by show 0 < _; rw [treeB_length]; exact hI.top, trivial, trivial⟩ hB.T.sgNodup hB.T.sgLt (treeB_allSome _ _) (by rw [treeB_length]; exact hB.T.blks) (fun _ => rfl) fun H1 hk1 hl1 => ?_
      have hB1 := hB.same hk1 (Nat.le_of_eq hl1.symm)
      simp -implicitDefEqProofs only [go_sem, ↓reduceIte, Nat.reduceEqDiff, Nat.reduceLT, Nat.reduceLeDiff, Nat.reduceAdd, Nat.reduceSub, Nat.reduceMul, Nat.reduceMod, Nat.reduceDiv, Int.reduceLE, Int.reduceLT, Int.reduceToNat, Int.reduceAdd, Int.reduceSub, Int.reduceMul, Int.reduceEq, Int.reduceNeg, BitVec.reduceOfInt, BitVec.reduceToNat, BitVec.reduceEq, BitVec.reduceNe, BitVec.reduceLT, reduceCtorEq, List.forall_mem_nil]
      refine goCall_keep (h := refH L) (rbs ub sb L) (.tup [.i64 x, .bool y]) hR (by kernel_rfl) (rg0 _ (fun _ => rfl)) rbs_length ⟨by show 0 < _; rw [← rbs_length (ub := ub) (sb := sb)]; exact rbs_pos, trivial, trivial⟩ hB1.rbsNodup hB1.rbsLt (refH_some _) hB1.rblks (fun _ => rfl) fun H2 hk2 hl2 => ?_
      have hB2 := hB1.same hk2 (Nat.le_of_eq hl2.symm)
      simp -implicitDefEqProofs only [go_sem, ↓reduceIte, Nat.reduceEqDiff, Nat.reduceLT, Nat.reduceLeDiff, Nat.reduceAdd, Nat.reduceSub, Nat.reduceMul, Nat.reduceMod, Nat.reduceDiv, Int.reduceLE, Int.reduceLT, Int.reduceToNat, Int.reduceAdd, Int.reduceSub, Int.reduceMul, Int.reduceEq, Int.reduceNeg, BitVec.reduceOfInt, BitVec.reduceToNat, BitVec.reduceEq, BitVec.reduceNe, BitVec.reduceLT, reduceCtorEq, List.forall_mem_nil]
      exact again_mk (j - 1) ⟨[(1, .slice b 0 asks.length 1), (5, .ptr (pos 0) 0), (6, .ptr ub 0), (52, .slice b 0 asks.length 1), (53, .i64 asks.length), (54, .i64 (i + 1 : Nat))], H2⟩ (by omega) (by simp [St.get, lookS, hw1]) rfl (fun _ _ h => h) ⟨i + 1, H2, by omega, hB2, rfl⟩
    · have hi' : ¬ (i : Int) < (asks.length : Int) := by omega
      simp -implicitDefEqProofs only [go_sem, ↓reduceIte, Nat.reduceEqDiff, Nat.reduceLT, Nat.reduceLeDiff, Nat.reduceAdd, Nat.reduceSub, Nat.reduceMul, Nat.reduceMod, Nat.reduceDiv, Int.reduceLE, Int.reduceLT, Int.reduceToNat, Int.reduceAdd, Int.reduceSub, Int.reduceMul, Int.reduceEq, Int.reduceNeg, BitVec.reduceOfInt, BitVec.reduceToNat, BitVec.reduceEq, BitVec.reduceNe, BitVec.reduceLT, reduceCtorEq, List.forall_mem_nil, hi']
      exact tail _ H hB (by simp [lookS]) (by simp [lookS])
end Go.Vm
end
section
-- NIDP
namespace Go.Vm
open Go.Proofs
set_option maxRecDepth 20000
set_option maxRecDepth 20000
theorem set_new (H : List (Option Blk)) (x y : Option Blk) : (H ++ [x]).set H.length y = H ++ [y] := by simp
/-- Kinds of blocks in a round: the row's (0), the list's (1), the tree's (2), the tree's new (3), the list's new (4). -/
def clB (w ub sb n : Nat) (x : Nat) : Nat := if x = w then 0 else if x = ub then 1 else if x = sb then 1 else if x < w then 2 else if x < n then 3 else 4
section
variable {cl : Nat → Nat} {l l' : List (List Nat × List Nat)}
theorem subs_end : subs cl [] [] := trivial
theorem subs_none (h : subs cl l l') : subs cl (([], []) :: l) (([], []) :: l') := ⟨⟨fun _ h => (by cases h), fun _ h => (by cases h)⟩, h⟩
theorem subs_read {w : Nat} (hw : cl w = 0) (h : subs cl l l') : subs cl (([w], []) :: l) (([0], []) :: l') := ⟨⟨fun x hx => by rw [List.mem_singleton.1 hx, hw]; simp, fun _ h => (by cases h)⟩, h⟩
theorem subs_call {T N : List Nat} (p q : Nat) (hT : ∀ x ∈ T, cl x = p) (hN : ∀ x ∈ N, cl x = q) (h : subs cl l l') : subs cl ((T, T ++ N) :: l) (([p], [p, q]) :: l') :=
  ⟨⟨fun x hx => by rw [hT x hx]; simp, fun x hx => by
    rcases List.mem_append.1 hx with hx | hx
    · rw [hT x hx]; simp
    · rw [hN x hx]; simp⟩, h⟩
end
theorem clB_row (w ub sb n : Nat) : clB w ub sb n w = 0 := by unfold clB; simp
theorem clB_list {w ub sb n : Nat} {L : List Pe} (hu : ub < w) (hs : sb < w) : ∀ x ∈ rbs ub sb L, clB w ub sb n x = 1 := fun x hx => by
  unfold clB
  rcases rbs_mem hx with rfl | rfl
  · rw [if_neg (by omega), if_pos rfl]
  · rw [if_neg (by omega)]; simp
theorem clB_tree {w ub sb n : Nat} {pos : Nat → Nat} {k : Nat} (hp : ∀ j, j < k → pos j < w ∧ pos j ≠ ub ∧ pos j ≠ sb) : ∀ x ∈ sgT pos k, clB w ub sb n x = 2 := fun x hx => by
  unfold sgT at hx
  obtain ⟨j, hj, rfl⟩ := List.mem_map.1 hx
  obtain ⟨h1, h2, h3⟩ := hp j (by simpa using hj)
  unfold clB
  rw [if_neg (by omega), if_neg h2, if_neg h3, if_pos h1]
theorem clB_treeN {w ub sb n k d : Nat} (hu : ub < w) (hs : sb < w) (hk : k = w + 1) (hn : n = k + d) : ∀ x ∈ List.range' k d, clB w ub sb n x = 3 := fun x hx => by
  rw [List.mem_range'_1] at hx
  unfold clB
  rw [if_neg (by omega), if_neg (by omega), if_neg (by omega), if_neg (by omega), if_pos (by omega)]
theorem clB_listN {w ub sb n d : Nat} (hu : ub < w) (hs : sb < w) (hn : w < n) : ∀ x ∈ List.range' n d, clB w ub sb n x = 4 := fun x hx => by
  rw [List.mem_range'_1] at hx
  unfold clB
  rw [if_neg (by omega), if_neg (by omega), if_neg (by omega), if_neg (by omega), if_neg (by omega)]
set_option maxHeartbeats 4000000 in
theorem ps_steps (h : List (Option Blk)) {pos : Nat → Nat} {many : Int} {A : List Nd} {l r : Sh} {ub sb : Nat} {L : List Pe} {H : List (Option Blk)} {t : List (Nat × V)} {v0 v1 : V} {rows asks : List (List V)} (hr : ArgV h [.i64, .i64, .i64, .u32, .u32, .str, .u32, .i64] v0 rows) (ha : ArgV h [.u32] v1 asks) (hI : TInv many A l r L) (hB : BothM h pos many A ub sb L H)
    (h0 : lookS t 0 = v0) (h1 : lookS t 1 = v1) (h5 : lookS t 5 = .ptr (pos 0) 0) (h6 : lookS t 6 = .ptr ub 0) (r0 r1 r2 r4 r13 c : Code) (hc : Try.f4.body = some (.seq r0 (.seq r1 (.seq r2 (.seq r4 (.seq r13 c)))))) : vc Try.prog h.length 90 (.seq r4 (.seq r13 c)) (PsQ h) ⟨t, H⟩ := by
  have finds := fun {pos : Nat → Nat} {many : Int} {A : List Nd} {l r : Sh} {ub sb : Nat} {L : List Pe} (t : List (Nat × V)) (H : List (Option Blk)) (hI : TInv many A l r L) (hB : BothM h pos many A ub sb L H) (h1 : lookS t 1 = v1) (h5 : lookS t 5 = .ptr (pos 0) 0) (h6 : lookS t 6 = .ptr ub 0) => ps_finds h ha hI hB h1 h5 h6 r0 r1 r2 r4 r13 c hc
  simp only [Try.f4, Option.some.injEq, Code.seq.injEq] at hc
  obtain ⟨-, -, -, rfl, hc⟩ := hc
  clear hc
  show vc _ _ _ _ (seqQ (vc Try.prog h.length 90 (.seq r13 c) (PsQ h)) (PsQ h)) _
  generalize Code.seq r13 c = rest at *
  obtain ⟨hk, hlen, hv⟩ := hr
  rcases hv with ⟨rfl, rfl⟩ | ⟨b, hb, rfl, hg⟩
  · refine go_start ?_
    simp -implicitDefEqProofs only [go_sem, ↓reduceIte, Nat.reduceEqDiff, Nat.reduceLT, Nat.reduceLeDiff, Nat.reduceAdd, Nat.reduceSub, Nat.reduceMul, Nat.reduceMod, Nat.reduceDiv, Int.reduceLE, Int.reduceLT, Int.reduceToNat, Int.reduceAdd, Int.reduceSub, Int.reduceMul, Int.reduceEq, Int.reduceNeg, BitVec.reduceOfInt, BitVec.reduceToNat, BitVec.reduceEq, BitVec.reduceNe, BitVec.reduceLT, reduceCtorEq, List.forall_mem_nil, h0, h1, h5, h6]
    refine go_unroll 1 ?_
    simp -implicitDefEqProofs only [go_sem, ↓reduceIte, Nat.reduceEqDiff, Nat.reduceLT, Nat.reduceLeDiff, Nat.reduceAdd, Nat.reduceSub, Nat.reduceMul, Nat.reduceMod, Nat.reduceDiv, Int.reduceLE, Int.reduceLT, Int.reduceToNat, Int.reduceAdd, Int.reduceSub, Int.reduceMul, Int.reduceEq, Int.reduceNeg, BitVec.reduceOfInt, BitVec.reduceToNat, BitVec.reduceEq, BitVec.reduceNe, BitVec.reduceLT, reduceCtorEq, List.forall_mem_nil, h0, h1, h5, h6]
    exact finds _ H hI hB (by simp [lookS, h1]) (by simp [lookS, h5]) (by simp [lookS, h6])
  · refine go_start ?_
    simp -implicitDefEqProofs only [go_sem, ↓reduceIte, Nat.reduceEqDiff, Nat.reduceLT, Nat.reduceLeDiff, Nat.reduceAdd, Nat.reduceSub, Nat.reduceMul, Nat.reduceMod, Nat.reduceDiv, Int.reduceLE, Int.reduceLT, Int.reduceToNat, Int.reduceAdd, Int.reduceSub, Int.reduceMul, Int.reduceEq, Int.reduceNeg, BitVec.reduceOfInt, BitVec.reduceToNat, BitVec.reduceEq, BitVec.reduceNe, BitVec.reduceLT, reduceCtorEq, List.forall_mem_nil, h0, h1, h5, h6]
    refine go_loop (fun j st => ∃ (i : Nat) (pos : Nat → Nat) (many : Int) (A : List Nd) (l r : Sh) (ub sb : Nat) (L : List Pe) (H : List (Option Blk)), i + j = rows.length ∧ TInv many A l r L ∧ BothM h pos many A ub sb L H ∧
      st = ⟨[(1, v1), (5, .ptr (pos 0) 0), (6, .ptr ub 0), (20, .slice b 0 rows.length 8), (21, .i64 rows.length), (22, .i64 i)], H⟩) ?_ ?_
    · exact start_mk rows.length ⟨[(1, v1), (5, .ptr (pos 0) 0), (6, .ptr ub 0), (20, .slice b 0 rows.length 8), (21, .i64 rows.length), (22, .i64 (0 : Nat))], H⟩ (by simp [St.get, lookS, h1, h5, h6]) rfl (fun _ _ h => h) ⟨0, pos, many, A, l, r, ub, sb, L, H, by omega, hI, hB, rfl⟩
    clear h0 h1 h5 h6 hI hB
    rintro j st ⟨i, pos, many, A, l, r, ub, sb, L, H, hij, hI, hB, rfl⟩ _
    by_cases hi : i < rows.length
    · have hi' : (i : Int) < (rows.length : Int) := by omega
      have hw1 : w64 ((i : Int) + 1) = ((i + 1 : Nat) : Int) := by rw [w64_of (by omega) (by omega)]; omega
      have hgb : getH H b = some ⟨true, rows.flatten, none⟩ := (hB.arg b hb).trans (hg (by omega))
      have hrl : ∀ r ∈ rows, r.length = 8 := fun r h => (hk r h).length
      have hle : i * 8 + 8 ≤ rows.flatten.length := by rw [flatten_length hrl]; omega
      have hrow := row_at (by decide : 0 < 8) hrl hi
      obtain ⟨k, a, bb, n, mm, s, ad, bt, e, _⟩ := step_row (hk (rows.getD i []) (by rw [List.getD_eq_getElem?_getD, List.getElem?_eq_getElem hi]; exact List.getElem_mem hi))
      rw [e] at hrow
      have hmin : min 8 (rows.flatten.length - i * 8) = 8 := by omega
      have hx := fun v => getH_new H (some (⟨false, v, none⟩ : Blk)) []
      simp -implicitDefEqProofs only [go_sem, ↓reduceIte, Nat.reduceEqDiff, Nat.reduceLT, Nat.reduceLeDiff, Nat.reduceAdd, Nat.reduceSub, Nat.reduceMul, Nat.reduceMod, Nat.reduceDiv, Int.reduceLE, Int.reduceLT, Int.reduceToNat, Int.reduceAdd, Int.reduceSub, Int.reduceMul, Int.reduceEq, Int.reduceNeg, BitVec.reduceOfInt, BitVec.reduceToNat, BitVec.reduceEq, BitVec.reduceNe, BitVec.reduceLT, reduceCtorEq, List.forall_mem_nil, hi', hgb, hrow, hmin, set_new, hx]
      refine ⟨by omega, by omega, ?_⟩
      refine goCall_pure0 (Of4_spec k a bb n mm s ad bt) ?_
      have hB0 := hB.app [some (⟨false, [.i64 k, .i64 a, .i64 bb, .u32 n, .u32 mm, .str s, .u32 ad, .i64 bt], none⟩ : Blk)]
      have hul := hB.ul
      have hsl := hB.sl
      have hpl : ∀ j, j < A.length → pos j < H.length ∧ pos j ≠ ub ∧ pos j ≠ sb := fun j hj => ⟨hB.T.lt hj, hB.sep j hj⟩
      by_cases hk4 : k % 4 = 0
      · obtain ⟨v, R, h', hD, hle', hI', hRD, hO⟩ := hI.drop_law a
        simp -implicitDefEqProofs only [go_sem, ↓reduceIte, Nat.reduceEqDiff, Nat.reduceLT, Nat.reduceLeDiff, Nat.reduceAdd, Nat.reduceSub, Nat.reduceMul, Nat.reduceMod, Nat.reduceDiv, Int.reduceLE, Int.reduceLT, Int.reduceToNat, Int.reduceAdd, Int.reduceSub, Int.reduceMul, Int.reduceEq, Int.reduceNeg, BitVec.reduceOfInt, BitVec.reduceToNat, BitVec.reduceEq, BitVec.reduceNe, BitVec.reduceLT, reduceCtorEq, List.forall_mem_nil, hk4, hx]
        refine goCallD_tree (.i64 v) hD (by kernel_rfl) hB0.T hI'.cl hle' (sg0 hI.top _ (fun _ => rfl)) ⟨hI.top, trivial, trivial⟩ rfl fun H1 hT1 hk1 hl1 => ?_
        have hB1 := hB0.tree hT1 hk1 (by rw [hl1]; exact Nat.le_add_right _ _)
        have hg1 := (hk1 H.length (by simp) (fun j hj => Nat.ne_of_lt (hpl j hj).1)).trans (hx _)
        have hl1' : H1.length = H.length + 1 + (R.2.length - A.length) := by rw [hl1]; simp
        have hp0 : posN pos A.length (H ++ [some (⟨false, [.i64 k, .i64 a, .i64 bb, .u32 n, .u32 mm, .str s, .u32 ad, .i64 bt], none⟩ : Blk)]).length 0 = pos 0 := if_pos hI.top
        simp -implicitDefEqProofs only [go_sem, ↓reduceIte, Nat.reduceEqDiff, Nat.reduceLT, Nat.reduceLeDiff, Nat.reduceAdd, Nat.reduceSub, Nat.reduceMul, Nat.reduceMod, Nat.reduceDiv, Int.reduceLE, Int.reduceLT, Int.reduceToNat, Int.reduceAdd, Int.reduceSub, Int.reduceMul, Int.reduceEq, Int.reduceNeg, BitVec.reduceOfInt, BitVec.reduceToNat, BitVec.reduceEq, BitVec.reduceNe, BitVec.reduceLT, reduceCtorEq, List.forall_mem_nil, hg1]
        refine goCallD_R (.i64 v) hRD hB1 hO (by kernel_rfl) (rg0 _ (fun _ => rfl)) ⟨by rw [← rbs_length (ub := ub) (sb := sb)]; exact rbs_pos, trivial, trivial⟩ rfl fun H2 sb2 hB2 => ?_
        simp -implicitDefEqProofs only [go_sem, ↓reduceIte, Nat.reduceEqDiff, Nat.reduceLT, Nat.reduceLeDiff, Nat.reduceAdd, Nat.reduceSub, Nat.reduceMul, Nat.reduceMod, Nat.reduceDiv, Int.reduceLE, Int.reduceLT, Int.reduceToNat, Int.reduceAdd, Int.reduceSub, Int.reduceMul, Int.reduceEq, Int.reduceNeg, BitVec.reduceOfInt, BitVec.reduceToNat, BitVec.reduceEq, BitVec.reduceNe, BitVec.reduceLT, reduceCtorEq, List.forall_mem_nil]
        refine ⟨ordOk_cls (clB H.length ub sb H1.length) [([], []), ([], []), ([0], []), ([2], [2, 3]), ([], []), ([], []), ([0], []), ([1], [1, 4]), ([], [])] (by kernel_rfl)
          (subs_none (subs_none (subs_read (clB_row _ _ _ _) (subs_call 2 3 (clB_tree hpl) (clB_treeN hul hsl rfl hl1') (subs_none (subs_none (subs_read (clB_row _ _ _ _) (subs_call 1 4 (clB_list hul hsl) (clB_listN hul hsl (by omega)) (subs_none subs_end))))))))), ?_⟩
        exact again_mk (j - 1) ⟨[(1, v1), (5, .ptr (pos 0) 0), (6, .ptr ub 0), (20, .slice b 0 rows.length 8), (21, .i64 rows.length), (22, .i64 (i + 1 : Nat))], H2⟩ (by omega) (by simp [St.get, lookS, hw1]) rfl (fun _ _ h => h) ⟨i + 1, _, _, _, _, _, _, _, _, _, by omega, hI', hB2, by rw [hp0]⟩
      · obtain ⟨v, many', A', l', r', L', h', hS, hle', hI', hRS, hO⟩ := hI.set_law ad bt a
        simp -implicitDefEqProofs only [go_sem, ↓reduceIte, Nat.reduceEqDiff, Nat.reduceLT, Nat.reduceLeDiff, Nat.reduceAdd, Nat.reduceSub, Nat.reduceMul, Nat.reduceMod, Nat.reduceDiv, Int.reduceLE, Int.reduceLT, Int.reduceToNat, Int.reduceAdd, Int.reduceSub, Int.reduceMul, Int.reduceEq, Int.reduceNeg, BitVec.reduceOfInt, BitVec.reduceToNat, BitVec.reduceEq, BitVec.reduceNe, BitVec.reduceLT, reduceCtorEq, List.forall_mem_nil, hk4, hx]
        refine goCallD_tree (.i64 v) hS (by kernel_rfl) hB0.T hI'.cl hle' (sg0 hI.top _ (fun _ => rfl)) ⟨hI.top, ⟨trivial, trivial, trivial⟩, trivial, trivial⟩ rfl fun H1 hT1 hk1 hl1 => ?_
        have hB1 := hB0.tree hT1 hk1 (by rw [hl1]; exact Nat.le_add_right _ _)
        have hg1 := (hk1 H.length (by simp) (fun j hj => Nat.ne_of_lt (hpl j hj).1)).trans (hx _)
        have hl1' : H1.length = H.length + 1 + (A'.length - A.length) := by rw [hl1]; simp
        have hp0 : posN pos A.length (H ++ [some (⟨false, [.i64 k, .i64 a, .i64 bb, .u32 n, .u32 mm, .str s, .u32 ad, .i64 bt], none⟩ : Blk)]).length 0 = pos 0 := if_pos hI.top
        simp -implicitDefEqProofs only [go_sem, ↓reduceIte, Nat.reduceEqDiff, Nat.reduceLT, Nat.reduceLeDiff, Nat.reduceAdd, Nat.reduceSub, Nat.reduceMul, Nat.reduceMod, Nat.reduceDiv, Int.reduceLE, Int.reduceLT, Int.reduceToNat, Int.reduceAdd, Int.reduceSub, Int.reduceMul, Int.reduceEq, Int.reduceNeg, BitVec.reduceOfInt, BitVec.reduceToNat, BitVec.reduceEq, BitVec.reduceNe, BitVec.reduceLT, reduceCtorEq, List.forall_mem_nil, hg1]
        refine goCallD_R (.i64 v) hRS hB1 hO (by kernel_rfl) (rg0 _ (fun _ => rfl)) ⟨by rw [← rbs_length (ub := ub) (sb := sb)]; exact rbs_pos, ⟨trivial, trivial, trivial⟩, trivial, trivial⟩ rfl fun H2 sb2 hB2 => ?_
        simp -implicitDefEqProofs only [go_sem, ↓reduceIte, Nat.reduceEqDiff, Nat.reduceLT, Nat.reduceLeDiff, Nat.reduceAdd, Nat.reduceSub, Nat.reduceMul, Nat.reduceMod, Nat.reduceDiv, Int.reduceLE, Int.reduceLT, Int.reduceToNat, Int.reduceAdd, Int.reduceSub, Int.reduceMul, Int.reduceEq, Int.reduceNeg, BitVec.reduceOfInt, BitVec.reduceToNat, BitVec.reduceEq, BitVec.reduceNe, BitVec.reduceLT, reduceCtorEq, List.forall_mem_nil]
        refine ⟨ordOk_cls (clB H.length ub sb H1.length) [([], []), ([], []), ([0], []), ([], []), ([0], []), ([2], [2, 3]), ([], []), ([], []), ([0], []), ([], []), ([0], []), ([1], [1, 4]), ([], [])] (by kernel_rfl)
          (subs_none (subs_none (subs_read (clB_row _ _ _ _) (subs_none (subs_read (clB_row _ _ _ _) (subs_call 2 3 (clB_tree hpl) (clB_treeN hul hsl rfl hl1') (subs_none (subs_none (subs_read (clB_row _ _ _ _) (subs_none (subs_read (clB_row _ _ _ _) (subs_call 1 4 (clB_list hul hsl) (clB_listN hul hsl (by omega)) (subs_none subs_end))))))))))))), ?_⟩
        exact again_mk (j - 1) ⟨[(1, v1), (5, .ptr (pos 0) 0), (6, .ptr ub 0), (20, .slice b 0 rows.length 8), (21, .i64 rows.length), (22, .i64 (i + 1 : Nat))], H2⟩ (by omega) (by simp [St.get, lookS, hw1]) rfl (fun _ _ h => h) ⟨i + 1, _, _, _, _, _, _, _, _, _, by omega, hI', hB2, by rw [hp0]⟩
    · have hi' : ¬ (i : Int) < (rows.length : Int) := by omega
      simp -implicitDefEqProofs only [go_sem, ↓reduceIte, Nat.reduceEqDiff, Nat.reduceLT, Nat.reduceLeDiff, Nat.reduceAdd, Nat.reduceSub, Nat.reduceMul, Nat.reduceMod, Nat.reduceDiv, Int.reduceLE, Int.reduceLT, Int.reduceToNat, Int.reduceAdd, Int.reduceSub, Int.reduceMul, Int.reduceEq, Int.reduceNeg, BitVec.reduceOfInt, BitVec.reduceToNat, BitVec.reduceEq, BitVec.reduceNe, BitVec.reduceLT, reduceCtorEq, List.forall_mem_nil, hi']
      exact finds _ H hI hB (by simp [lookS]) (by simp [lookS]) (by simp [lookS])
end Go.Vm
end
section
-- NIDP
namespace Go.Vm
open Go.Proofs
set_option maxRecDepth 20000
set_option maxRecDepth 20000
set_option maxHeartbeats 4000000 in
theorem ps_all (h : List (Option Blk)) {v0 v1 : V} {rows asks : List (List V)} (hr : ArgV h [.i64, .i64, .i64, .u32, .u32, .str, .u32, .i64] v0 rows) (ha : ArgV h [.u32] v1 asks) : Spec0 Try.prog 4 [v0, v1] h (.bool true) (h.map fun _ => none) := by
  have key : ∀ (r0 r1 r2 r4 r13 c : Code), Try.f4.body = some (.seq r0 (.seq r1 (.seq r2 (.seq r4 (.seq r13 c))))) → Spec0 Try.prog 4 [v0, v1] h (.bool true) (h.map fun _ => none) := fun r0 r1 r2 r4 r13 c hc => by
    refine spec0_of_vc (by kernel_rfl) (fn := Try.f4) Try.func4 hc (by show 2 ≤ 90; decide) ?_
    show vc _ _ 90 _ (PsQ h) _
    have next := fun {pos : Nat → Nat} {many : Int} {A : List Nd} {l r : Sh} {ub sb : Nat} {L : List Pe} (t : List (Nat × V)) (H : List (Option Blk)) (hI : TInv many A l r L) (hB : BothM h pos many A ub sb L H) (h0 : lookS t 0 = v0) (h1 : lookS t 1 = v1) (h5 : lookS t 5 = .ptr (pos 0) 0) (h6 : lookS t 6 = .ptr ub 0) => ps_steps h hr ha hI hB h0 h1 h5 h6 r0 r1 r2 r4 r13 c hc
    simp only [Try.f4, Option.some.injEq, Code.seq.injEq] at hc
    obtain ⟨rfl, rfl, rfl, hc⟩ := hc
    clear hc
    generalize Code.seq r4 (Code.seq r13 c) = rest at *
    refine go_start ?_
    simp -implicitDefEqProofs only [go_sem, ↓reduceIte, Nat.reduceEqDiff, Nat.reduceLT, Nat.reduceLeDiff, Nat.reduceAdd, Nat.reduceSub, Nat.reduceMul, Nat.reduceMod, Nat.reduceDiv, Int.reduceLE, Int.reduceLT, Int.reduceToNat, Int.reduceAdd, Int.reduceSub, Int.reduceMul, Int.reduceEq, Int.reduceNeg, BitVec.reduceOfInt, BitVec.reduceToNat, BitVec.reduceEq, BitVec.reduceNe, BitVec.reduceLT, reduceCtorEq, List.forall_mem_nil]
    refine goCall_op [] (.ptr h.length 0) PNew_spec (by kernel_rfl) rfl rfl trivial (by simp) (by simp) trivial trivial ⟨rfl, trivial⟩ (by simp) (by simp [V.ren, sgOf, sgNew, treeB]) fun H1 hk1 hn1 hl1 => ?_
    have hz : sgOf (sgNew [] h.length (treeB 0 [leaf])) 0 = h.length := by rw [sgNew_ge (Nat.zero_le _) (by decide)]; simp
    have hg := hn1 0 (by decide)
    have hl : H1.length = h.length + 1 := by rw [hl1]; rfl
    have hT : TreeAt (fun _ => h.length) 0 [leaf] H1 := by
      refine ⟨fun j nd e => ?_, fun i j hi hj _ => ?_, TInv.init.cl⟩
      · have hj := (List.getElem?_eq_some_iff.1 e).1
        simp at hj
        subst hj
        simp at e
        subst e
        show getH H1 h.length = _
        rw [← hz]
        exact hg
      · simp at hi hj; omega
    have hB : BothM h (fun _ => h.length) 0 [leaf] H1.length H1.length [] (H1 ++ [some ⟨false, [.nilSlice], none⟩]) := by
      refine ⟨hT.app _, .inl ⟨rfl, getH_new _ _ _⟩, by simp, by simp, fun j _ => ⟨by omega, by omega⟩, fun b hb => ?_, by omega, by omega, fun _ _ => Nat.le_refl _⟩
      rw [getH_app (by omega)]
      exact hk1 b hb (by simp)
    simp -implicitDefEqProofs only [go_sem, ↓reduceIte, Nat.reduceEqDiff, Nat.reduceLT, Nat.reduceLeDiff, Nat.reduceAdd, Nat.reduceSub, Nat.reduceMul, Nat.reduceMod, Nat.reduceDiv, Int.reduceLE, Int.reduceLT, Int.reduceToNat, Int.reduceAdd, Int.reduceSub, Int.reduceMul, Int.reduceEq, Int.reduceNeg, BitVec.reduceOfInt, BitVec.reduceToNat, BitVec.reduceEq, BitVec.reduceNe, BitVec.reduceLT, reduceCtorEq, List.forall_mem_nil]
    exact next _ _ TInv.init hB (by simp [lookS]) (by simp [lookS]) (by simp [lookS]) (by simp [lookS])
  exact key _ _ _ _ _ _ rfl
end Go.Vm
end
