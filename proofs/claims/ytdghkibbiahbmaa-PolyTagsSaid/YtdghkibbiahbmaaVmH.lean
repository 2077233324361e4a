/- Slices: made, appended to, cut; strings from and to bytes. -/
import Derived.Test.YtdghkibbiahbmaaVmG
import Derived.Deep.Upon
set_option linter.unusedVariables false
set_option linter.unusedSimpArgs false
set_option linter.unusedSectionVars false
namespace Go.Vm
section
variable {ρ : Nat → Nat × Nat} {dom : Nat → Prop} {P : Program} {w : World} {get : Nat → Option Blk} {nid : Nat}

theorem vrep_length (z : List V) : ∀ n, (vrep z n).length = n * z.length
  | 0 => by simp [vrep]
  | n + 1 => by simp [vrep, vrep_length z n, Nat.succ_mul]; omega
theorem vrep_get (z : List V) (hz : 0 < z.length) : ∀ (n i : Nat), i < n * z.length → (vrep z n)[i]? = z[i % z.length]?
  | 0, i, h => by simp at h
  | n + 1, i, h => by
    unfold vrep
    by_cases hi : i < z.length
    · rw [List.getElem?_append_left hi, Nat.mod_eq_of_lt hi]
    · rw [List.getElem?_append_right (by omega), vrep_get z hz n (i - z.length) (by rw [Nat.succ_mul] at h; omega)]
      rw [← Nat.mod_eq_sub_mod (by omega)]
theorem madeCells_rel {z : List V} {zc : Array Value} (h : VRs ρ dom w z zc.toList) (hz : 0 < z.length) (n : Nat) : VRs ρ dom w (vrep z n) (madeCells zc (n * z.length)).toList := by
  have hl : zc.size = z.length := by have := h.length; simpa using this
  refine VRs.of_get (by simp [size_madeCells, vrep_length]) fun i v r hv hr => ?_
  have hi : i < n * z.length := by
    have := (List.getElem?_eq_some_iff.1 hv).1
    rwa [vrep_length] at this
  rw [vrep_get z hz n i hi] at hv
  obtain ⟨r', g1, g2⟩ := h.get hv
  have : (madeCells zc (n * z.length)).toList[i]? = some zc[i % zc.size]! := by
    unfold madeCells
    simp [hi]
  rw [this] at hr
  injection hr with hr
  have hm : i % z.length < zc.size := by rw [hl]; exact Nat.mod_lt _ hz
  rw [hl] at hr
  simp [hm] at hr g1
  rw [← hr, g1]
  exact g2

theorem there_new (w1 : World) (c : Array Value) (e : TypeId) (fz : Nat × Nat) (n : Nat) (h : n ≤ c.size) (hf : ∀ i, i < n → ¬ (fz.1 ≤ i ∧ i < fz.2)) : (w1.alloc (.cells c e fz)).there w1.heap.size 0 n := fun j hj => by
  rw [cell?_alloc_fz, frozen?_alloc_fz]
  have := hf j hj
  simp only [Nat.zero_add]
  exact ⟨by simp; omega, by simpa using this⟩
theorem slice_new {w1 : World} (c : Array Value) (e : TypeId) (fz : Nat × Nat) (n cap s : Nat) (hsz : w1.heap.size = w.heap.size) (hn : n ≤ cap) (h : cap * s ≤ c.size) (hf : ∀ i, i < cap * s → ¬ (fz.1 ≤ i ∧ i < fz.2)) :
    VR (extend ρ nid (w.heap.size, 0)) (domWith dom nid 1) (w1.alloc (.cells c e fz)) (.slice nid 0 n s) (.slice (some ⟨w.heap.size, 0, none⟩) n cap) := by
  unfold VR
  refine ⟨.inr ⟨by omega, by omega⟩, _, _, rfl, hn, fun _ => ?_⟩
  rw [extend_new]
  refine ⟨rfl, ?_⟩
  rw [← hsz]
  exact there_new w1 c e fz _ h hf

theorem makeSlice_sound {t e : TypeId} {s by_ : Nat} {z : List V} {n : Int} (ht : P.underlying t = some (.slice e)) (hs : szOf P e = some s) (hb : byOf P e = some by_) (hz : zeroOf P e = some z) (hl : z.length = s) (h0 : 0 < s)
    (hn : 0 ≤ n) (hby : n * by_ ≤ 140737488355328) (hle : n ≤ 140737488355328) (hm : MemRel ρ dom get w) (hd : ¬ dom nid) :
    RunsTo P (do pure (.value (← Instr.makeSlice t (.int .i64 n) (.int .i64 n))) : Sem Next) w ρ dom get nid { v := .slice nid 0 n.toNat s, news := [some ⟨false, vrep z n.toNat⟩] } := by
  obtain ⟨i, zv, hi, hzv, rfl⟩ := zero_sound hz
  have hsz : i.size = s := by unfold szOf at hs; rw [hi] at hs; injection hs
  have hbz : i.bytes = by_ := by unfold byOf at hb; rw [hi] at hb; injection hb
  have hr := run_make (P := P) w t e i zv ht hi hzv .i64 .i64 n n hn (Int.le_refl _) (by rw [hbz, Int.mul_comm]; omega) (by omega)
  have hzl : zv.cells.size = s := by simpa using hl
  refine RunsTo.fresh (w1 := w) (c := madeCells zv.cells (n.toNat * i.size)) (e := e) (fz := (0, 0)) (cs := vrep (zv.cells.toList.map ofValue) n.toNat) hm (Alike.refl w) hd (by rw [Sem.run_bind, hr]; rfl) (fun i' v hv => ?_) (fun i _ h => by have := h.2; simp at this) (slice_new _ _ _ _ _ _ rfl (Nat.le_refl _) (by rw [size_madeCells, hsz]; exact Nat.le_refl _) (fun i _ h => by have := h.2; simp at this)) rfl rfl
  have hrel := madeCells_rel (ρ := ρ) (dom := dom) (w := w) (zero_rel zv) (by rw [hl]; exact h0) n.toNat
  rw [hl, ← hsz] at hrel
  obtain ⟨r, h1, h2⟩ := hrel.get hv
  exact ⟨r, by simpa using h1, h2⟩

theorem buildSlice_sound {t e : TypeId} {len s : Nat} {z cs : List V} {parts : List (Nat × V)} {rparts : Array (Nat × Value)} (ht : P.underlying t = some (.slice e)) (hs : szOf P e = some s) (hz : zeroOf P e = some z) (hl : z.length = s) (h0 : 0 < s) (hle : len * s ≤ 1048576)
    (hpl : rparts.size = parts.length) (hp : ∀ (i : Nat) x y, parts[i]? = some x → rparts.toList[i]? = some y → x.1 = y.1 ∧ VR ρ dom w x.2 y.2)
    (hf : vfill (fun i => some (i * s, s)) (vrep z len) parts = some cs) (hm : MemRel ρ dom get w) (hd : ¬ dom nid) :
    RunsTo P (do pure (.value (← Instr.buildSlice t len rparts)) : Sem Next) w ρ dom get nid { v := .slice nid 0 len s, news := [some ⟨false, cs⟩] } := by
  obtain ⟨i, zv, hi, hzv, rfl⟩ := zero_sound hz
  have hsz : i.size = s := by unfold szOf at hs; rw [hi] at hs; injection hs
  have hzl : zv.cells.size = s := by simpa using hl
  have hrel := madeCells_rel (ρ := ρ) (dom := dom) (w := w) (zero_rel zv) (by rw [hl]; exact h0) len
  rw [hl] at hrel
  obtain ⟨rc, h1, h2⟩ := fill_sound parts rparts.toList _ cs (madeCells zv.cells (len * s)) (by simpa using hpl) hp hf hrel
  have hlen : rc.size = len * s := by
    have a := h2.length
    have b : ∀ (ps : List (Nat × V)) (vc c : List V), vfill (fun i => some (i * s, s)) vc ps = some c → c.length = vc.length := by
      intro ps
      induction ps with
      | nil => intro vc c h; simp only [vfill, Option.some.injEq] at h; rw [h]
      | cons p ps ih =>
        intro vc c h
        obtain ⟨i, v⟩ := p
        simp only [vfill] at h
        split at h
        · rename_i hc
          rw [ih _ _ h, splice_length (by omega)]
        · cases h
    have c := b _ _ _ hf
    rw [vrep_length, hl] at c
    simp at a
    omega
  refine RunsTo.fresh (w1 := w) (c := rc) (e := e) (fz := (0, 0)) (cs := cs) hm (Alike.refl w) hd ?_ (fun i' v hv => ?_) (fun i _ h => by have := h.2; simp at this) (slice_new _ _ _ _ len _ rfl (Nat.le_refl _) (by rw [hlen]; exact Nat.le_refl _) (fun i _ h => by have := h.2; simp at this)) rfl rfl
  · have h24 : ¬ (16777216 < len * s) := by omega
    have hsize : (sizeOf e).run P w = .ok s w := by simp [sizeOf, typeInfo, hi, hsz]
    by_cases hz0 : len * s = 0
    · have hl0 : len = 0 := by
        rcases Nat.mul_eq_zero.1 hz0 with h | h
        · exact h
        · omega
      subst hl0
      rw [Nat.zero_mul] at h1
      have e0 : madeCells zv.cells 0 = #[] := by simp [madeCells, Array.range_zero']
      rw [e0] at h1
      simp [Instr.buildSlice, run_underlying ht, hsize, newRow, Array.range_zero', h1]
    · unfold madeCells at h1
      simp [Instr.buildSlice, run_underlying ht, hsize, h24, hz0, zeroValue, typeInfo, hi, hzv, newRow, h1]
  · obtain ⟨r, g1, g2⟩ := h2.get hv
    exact ⟨r, by simpa using g1, g2⟩

/-! ### append -/
theorem byteCells_rel (b : ByteArray) : VRs ρ dom w ((bytesOf b).map .u8) (byteCells b) := by
  unfold bytesOf byteCells
  rw [List.map_map]
  refine VRs.of_get (by simp) fun i v r hv hr => ?_
  rw [List.getElem?_map] at hv hr
  cases hb : b.data.toList[i]? with
  | none => rw [hb] at hv; cases hv
  | some x =>
    rw [hb] at hv hr
    injection hv with hv; injection hr with hr
    subst hv; subst hr
    show VR ρ dom w (.u8 _) _
    unfold VR
    rfl

theorem src_sound {y : V} {ry : Value} {m s : Nat} {ys : List V} {q : Prop} {g : List Nat} {tx : TypeId} (h : vsrc get y = some (m, ys, q, g)) (hq : q) (hm : MemRel ρ dom get w) (hy : VR ρ dom w y ry) (hs : eszOk s y = true)
    (hk : (∃ e', P.underlying tx = some (.slice e')) ∧ isStr y = false ∨ P.underlying tx = some .string ∧ isStr y = true) (h1 : ∀ u ∈ ys, u.one = true) :
    ∃ news, Src P s tx ry m news w ∧ VRs ρ dom w ys news := by
  have hone : ∀ (vs : List V) (rs : List Value), VRs ρ dom w vs rs → (∀ u ∈ vs, u.one = true) → ∀ u ∈ rs, u.oneCell' = true := fun vs rs hv ho u hu => by
    obtain ⟨i, hi, rfl⟩ := List.mem_iff_getElem.1 hu
    have hl := hv.length
    obtain ⟨r, g1, g2⟩ := hv.get (i := i) (v := vs[i]'(by omega)) (by simp)
    rw [List.getElem?_eq_getElem hi] at g1
    injection g1 with g1
    rw [g1]
    exact one_oneCell (ho _ (List.getElem_mem _)) g2
  unfold vsrc at h
  split at h
  · injection h with h
    simp only [Prod.mk.injEq] at h
    obtain ⟨rfl, rfl, _, rfl⟩ := h
    unfold VR at hy; subst hy
    rcases hk with ⟨⟨e', hk⟩, _⟩ | ⟨_, hk⟩
    · exact ⟨[], Src.ofNil w hk 0, VRs.nil⟩
    · simp [isStr] at hk
  · rename_i str
    injection h with h
    simp only [Prod.mk.injEq] at h
    obtain ⟨rfl, rfl, _, rfl⟩ := h
    unfold VR at hy
    obtain ⟨b, rfl, rfl⟩ := hy
    simp [eszOk] at hs
    subst hs
    rcases hk with ⟨_, hk⟩ | ⟨hk, _⟩
    · simp [isStr] at hk
    · exact ⟨byteCells b, by rw [bytesOf_length]; exact Src.ofString w hk b, byteCells_rel b⟩
  · rename_i b o len esz
    split at h
    case h_2 => cases h
    rename_i B hB
    injection h with h
    simp only [Prod.mk.injEq] at h
    obtain ⟨rfl, rfl, rfl, rfl⟩ := h
    simp [eszOk] at hs
    subst hs
    unfold VR at hy
    obtain ⟨_, a, cap, rfl, hlc, ha⟩ := hy
    rcases hk with ⟨⟨e', hk⟩, _⟩ | ⟨_, hk⟩
    case inr => simp [isStr] at hk
    obtain ⟨rs, g1, g2⟩ := hm.range hB o (len * esz)
    have hl := g1.length
    refine ⟨rs, Src.ofSlice w hk a len cap rs (by rw [hl]; simp; omega) (fun j u hu => ?_) (hone _ _ g1 h1), g1⟩
    have hc : cap ≠ 0 := fun e => by
      have : len = 0 := by omega
      subst this
      have : rs = [] := by
        have : rs.length = 0 := by rw [hl]; simp
        exact List.length_eq_zero_iff.1 this
      subst this
      simp at hu
    obtain ⟨rfl, _⟩ := ha hc
    rw [Addr.add_mid]
    exact g2 j u hu
  · cases h

theorem VRs.mono' {ρ' : Nat → Nat × Nat} {dom' : Nat → Prop} {w' : World} (hρ : ∀ b, dom b → ρ' b = ρ b) (hd : ∀ b, dom b → dom' b) (hl : Lasts w w') {vs : List V} {rs : List Value} (h : VRs ρ dom w vs rs) : VRs ρ' dom' w' vs rs := VRs.mono hρ hd hl h

theorem append_room {b o n m s nid' : Nat} {cap : Nat} {cs ys : List V} {news : List Value} (hm : MemRel ρ dom get w) (hb : get b = some ⟨false, cs⟩) (hd : ¬ dom nid') (hle : o + n * s ≤ cs.length) (hys : VRs ρ dom w ys news) (hyl : ys.length = m * s) (hroom : n + m ≤ cap)
    (hth : w.there (ρ b).1 ((ρ b).2 + o) (cap * s)) :
    MemRel (extend ρ nid' ((ρ b).1, (ρ b).2 + o)) (domWith dom nid' 1) (upd get [(b, none)] nid' [some ⟨false, (cs.drop o).take (n * s) ++ ys⟩]) (w.setCells (ρ b).1 ((ρ b).2 + o + n * s) news) ∧
    Frame ρ get w (extend ρ nid' ((ρ b).1, (ρ b).2 + o)) (upd get [(b, none)] nid' [some ⟨false, (cs.drop o).take (n * s) ++ ys⟩]) (w.setCells (ρ b).1 ((ρ b).2 + o + n * s) news) ∧
    VR (extend ρ nid' ((ρ b).1, (ρ b).2 + o)) (domWith dom nid' 1) (w.setCells (ρ b).1 ((ρ b).2 + o + n * s) news) (.slice nid' 0 (n + m) s) (.slice (some ⟨(ρ b).1, (ρ b).2 + o, none⟩) (n + m) cap) := by
  have hnl := hys.length
  have hmul : n * s + m * s ≤ cap * s := by rw [← Nat.add_mul]; exact Nat.mul_le_mul_right _ hroom
  have hl := lasts_setCells (ρ b).1 ((ρ b).2 + o + n * s) news w
  have hold := extend_old (ρ := ρ) (x := ((ρ b).1, (ρ b).2 + o)) hd
  have hbn : b ≠ nid' := fun e => hd (e ▸ hm.has b _ hb)
  have hupd : upd get [(b, none)] nid' [some ⟨false, (cs.drop o).take (n * s) ++ ys⟩] = fun b' => if b' = nid' then some ⟨false, (cs.drop o).take (n * s) ++ ys⟩ else if b' = b then none else get b' := by
    funext b'
    unfold upd
    by_cases h : b' = nid'
    · subst h; simp
    · rw [if_neg (by simp; omega), if_neg h]; rfl
  rw [hupd]
  have hget : ∀ b' B, b' ≠ nid' → (fun b' => if b' = nid' then some (⟨false, (cs.drop o).take (n * s) ++ ys⟩ : Blk) else if b' = b then none else get b') b' = some B → b' ≠ b ∧ get b' = some B := fun b' B h1 h2 => by
    simp only [if_neg h1] at h2
    by_cases e : b' = b
    · rw [if_pos e] at h2; cases h2
    · rw [if_neg e] at h2; exact ⟨e, h2⟩
  have hgn : ∀ B, (fun b' => if b' = nid' then some (⟨false, (cs.drop o).take (n * s) ++ ys⟩ : Blk) else if b' = b then none else get b') nid' = some B → B = ⟨false, (cs.drop o).take (n * s) ++ ys⟩ := fun B h => by simpa using h.symm
  have hneq : ∀ b' B, b' ≠ b → get b' = some B → (ρ b').1 ≠ (ρ b).1 := fun b' B h1 h2 e => hm.inj b b' _ B hb h2 rfl (fun x => h1 x.symm) e.symm
  have hnew_len : ((cs.drop o).take (n * s)).length = n * s := by simp; omega
  refine ⟨⟨fun b' B hB => ?_, fun b' B hB => ?_, fun b1 b2 B1 B2 h1 h2 hr hne => ?_, fun b' B hB i v hv => ?_, fun b' B hB hr i hi => ?_⟩,
    ⟨(os_setCells _ _ _ _).1, (os_setCells _ _ _ _).2.1, (os_setCells _ _ _ _).2.2, by rw [size_setCells]; exact Nat.le_refl _, fun r hr hbr => ?_, hl, fun b' B hB hr => ?_⟩, ?_⟩
  · by_cases e : b' = nid'
    · exact .inr ⟨by omega, by omega⟩
    · exact .inl (hm.has b' B (hget b' B e hB).2)
  · rw [size_setCells]
    by_cases e : b' = nid'
    · subst e; rw [extend_new]; exact hm.lt b _ hb
    · have := (hget b' B e hB).2
      rw [hold b' (hm.has b' B this)]; exact hm.lt b' B this
  · by_cases e1 : b1 = nid'
    · subst e1
      have e2 : b2 ≠ b1 := fun e => hne e.symm
      obtain ⟨g1, g2⟩ := hget b2 B2 e2 h2
      rw [extend_new, hold b2 (hm.has b2 B2 g2)]
      exact fun x => hneq b2 B2 g1 g2 x.symm
    · obtain ⟨g1, g2⟩ := hget b1 B1 e1 h1
      rw [hold b1 (hm.has b1 B1 g2)]
      by_cases e2 : b2 = nid'
      · subst e2; rw [extend_new]; exact hneq b1 B1 g1 g2
      · obtain ⟨g3, g4⟩ := hget b2 B2 e2 h2
        rw [hold b2 (hm.has b2 B2 g4)]
        exact hm.inj b1 b2 B1 B2 g2 g4 hr hne
  · by_cases e : b' = nid'
    · subst e
      rw [hgn B hB] at hv
      rw [extend_new]
      simp only at hv ⊢
      by_cases hi : i < n * s
      · rw [List.getElem?_append_left (by omega), List.getElem?_take, if_pos hi, List.getElem?_drop] at hv
        obtain ⟨r, g1, g2⟩ := hm.cell b _ hb (o + i) v hv
        refine ⟨r, ?_, g2.mono hold dom_sub hl⟩
        rw [World.cell?_setCells_out _ _ _ _ _ (fun _ _ => by simp only; omega)]
        rw [← g1]; congr 2; omega
      · rw [List.getElem?_append_right (by omega), hnew_len] at hv
        obtain ⟨r, g1, g2⟩ := hys.get hv
        refine ⟨r, ?_, g2.mono hold dom_sub hl⟩
        have hj : i - n * s < news.length := (List.getElem?_eq_some_iff.1 g1).1
        have := World.cell?_setCells_in (ρ b).1 news ((ρ b).2 + o + n * s) w (fun j hj => by
          have := (hth (n * s + j) (by omega)).1
          rw [← this]; congr 2; simp; omega) (i - n * s) hj
        rw [show (ρ b).2 + o + n * s + (i - n * s) = (ρ b).2 + o + i by omega] at this
        rw [this, ← g1]; simp [hj]
    · obtain ⟨g1, g2⟩ := hget b' B e hB
      obtain ⟨r, h1, h2⟩ := hm.cell b' B g2 i v hv
      refine ⟨r, ?_, h2.mono hold dom_sub hl⟩
      rw [hold b' (hm.has b' B g2), World.cell?_setCells_out _ _ _ _ _ (fun x _ => absurd x (hneq b' B g1 g2))]
      exact h1
  · rw [World.frozen?_setCells]
    by_cases e : b' = nid'
    · subst e
      rw [hgn B hB] at hi
      rw [extend_new]
      simp only [List.length_append, hnew_len] at hi
      exact (hth i (by omega)).2
    · obtain ⟨g1, g2⟩ := hget b' B e hB
      rw [hold b' (hm.has b' B g2)]
      exact hm.free b' B g2 hr i hi
  · exact heap_setCells_other _ _ _ _ _ (fun e => hbr b _ hb rfl e.symm)
  · by_cases e : b' = nid'
    · subst e; rw [extend_new]; exact .inl ⟨b, _, hb, rfl, rfl⟩
    · obtain ⟨g1, g2⟩ := hget b' B e hB
      exact .inl ⟨b', B, g2, hr, by rw [hold b' (hm.has b' B g2)]⟩
  · unfold VR
    refine ⟨.inr ⟨by omega, by omega⟩, _, _, rfl, hroom, fun _ => ?_⟩
    rw [extend_new]
    exact ⟨rfl, hl.there hth⟩
end
end Go.Vm
