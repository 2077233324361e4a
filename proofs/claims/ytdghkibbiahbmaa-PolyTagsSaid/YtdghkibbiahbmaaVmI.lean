/- append, copy, cutting, indexing: run by the machine. -/
import Derived.Test.YtdghkibbiahbmaaVmH
set_option linter.unusedVariables false
set_option linter.unusedSimpArgs false
set_option linter.unusedSectionVars false
namespace Go.Vm
section
variable {ρ : Nat → Nat × Nat} {dom : Nat → Prop} {P : Program} {w : World} {get : Nat → Option Blk} {nid : Nat}

/-- What an append that grows picks. -/
theorem cap_wide {need old : Nat} (h : old < need) : Builtin.nextslicecap need old ≤ need + need / 4 + 192 := by
  unfold Builtin.nextslicecap
  split
  · omega
  · split
    · omega
    · rw [growBy_four]
      repeat' split
      all_goals omega
theorem nat_sound {x : V} {r : Value} {n : Int} (h : x.nat? = some n) (hv : VR ρ dom w x r) : ∃ k, r = .int k n := by
  cases x <;> simp only [V.nat?, Option.some.injEq, reduceCtorEq] at h <;> subst h <;> unfold VR at hv <;> exact ⟨_, hv⟩

theorem upd_kill_le (get : Nat → Option Blk) (f : List Nat) (nid : Nat) (x : Option Blk) : ∀ b B, upd get (f.map fun b => (b, none)) nid [x] b = some B → upd get [] nid [x] b = some B := fun b B h => by
  unfold upd at *
  split at h
  · rename_i hc; rw [if_pos hc]; exact h
  · rename_i hc
    rw [if_neg hc]
    have : ∀ (f : List Nat) (d : Option Blk), lookOld (f.map fun b => (b, none)) b d = some B → d = some B := by
      intro f
      induction f with
      | nil => intro d h; exact h
      | cons i f ih =>
        intro d h
        simp only [List.map_cons, lookOld] at h
        split at h
        · cases h
        · exact ih d h
    exact this f _ h

theorem srcT_kind {tx : TypeId} {y : V} (h : srcT P tx y = true) : (∃ e', P.underlying tx = some (.slice e')) ∧ isStr y = false ∨ P.underlying tx = some .string ∧ isStr y = true := by
  unfold srcT at h
  cases hu : P.underlying tx with
  | none => rw [hu] at h; cases h
  | some d =>
    rw [hu] at h
    cases d
    case string => cases y <;> first | exact .inr ⟨rfl, rfl⟩ | cases h
    case slice e => refine .inl ⟨⟨e, rfl⟩, ?_⟩; cases y <;> first | rfl | cases h
    all_goals cases h

theorem append_sound {t tx ty e : TypeId} {x y : V} {rx ry : Value} {n m sz by_ : Nat} {xs ys z : List V} {p q : Prop} {f g : List Nat} (ht : P.underlying t = some (.slice e)) (hs : szOf P e = some sz) (hb : byOf P e = some by_) (hz : zeroOf P e = some z)
    (hzl : z.length = sz) (h0 : 0 < sz) (hxs : isStr x = false) (hex : eszOk sz x = true) (hey : eszOk sz y = true) (hk : srcT P tx y = true) (hsx : vsrc get x = some (n, xs, p, f)) (hsy : vsrc get y = some (m, ys, q, g))
    (hp : (vappend n m sz by_ x xs ys p q f g get nid).pre) (hx : VR ρ dom w x rx) (hy : VR ρ dom w y ry) (hm : MemRel ρ dom get w) (hd : ¬ dom nid) :
    RunsTo P (do pure (.value (← Builtin.append_ #[t, tx] ty #[rx, ry])) : Sem Next) w ρ dom get nid (vappend n m sz by_ x xs ys p q f g get nid) := by
  obtain ⟨i, zv, hi, hzv, rfl⟩ := zero_sound hz
  have hsz : i.size = sz := by unfold szOf at hs; rw [hi] at hs; injection hs
  have hbz : i.bytes = by_ := by unfold byOf at hb; rw [hi] at hb; injection hb
  have hzs : zv.cells.size = sz := by simpa using hzl
  have hkk := srcT_kind hk
  -- what the first argument is
  have hfirst : (x = .nilSlice ∧ rx = .slice none 0 0 ∧ n = 0 ∧ xs = [] ∧ f = []) ∨ ∃ b o B a cap, x = .slice b o n sz ∧ rx = .slice (some a) n cap ∧ n ≤ cap ∧ get b = some B ∧ xs = (B.cs.drop o).take (n * sz) ∧ p = (o + n * sz ≤ B.cs.length) ∧ f = [b] ∧
      (cap ≠ 0 → a = ⟨(ρ b).1, (ρ b).2 + o, none⟩ ∧ w.there (ρ b).1 ((ρ b).2 + o) (cap * sz)) := by
    unfold vsrc at hsx
    split at hsx
    · injection hsx with hsx
      simp only [Prod.mk.injEq] at hsx
      obtain ⟨rfl, rfl, _, rfl⟩ := hsx
      unfold VR at hx
      exact .inl ⟨rfl, hx, rfl, rfl, rfl⟩
    · simp [isStr] at hxs
    · split at hsx
      case h_2 => cases hsx
      rename_i B hB
      injection hsx with hsx
      simp only [Prod.mk.injEq] at hsx
      obtain ⟨rfl, rfl, rfl, rfl⟩ := hsx
      simp [eszOk] at hex
      subst hex
      unfold VR at hx
      obtain ⟨_, a, cap, rfl, h1, h2⟩ := hx
      exact .inr ⟨_, _, B, a, cap, rfl, rfl, h1, hB, rfl, rfl, rfl, h2⟩
    · cases hsx
  by_cases hm0 : m = 0
  · subst hm0
    have hres : vappend n 0 sz by_ x xs ys p q f g get nid = { v := x, pre := q, fp := f ++ g } := by unfold vappend; rw [if_pos rfl]
    rw [hres] at hp ⊢
    have hys : ys = [] := by
      unfold vsrc at hsy
      split at hsy
      · injection hsy with hsy; simp only [Prod.mk.injEq] at hsy; exact hsy.2.1.symm
      · injection hsy with hsy; simp only [Prod.mk.injEq] at hsy
        obtain ⟨h1, h2, _⟩ := hsy
        rw [← h2, List.length_eq_zero_iff.1 h1]; rfl
      · split at hsy
        · injection hsy with hsy; simp only [Prod.mk.injEq] at hsy
          obtain ⟨h1, h2, _⟩ := hsy
          rw [← h2, h1]; simp
        · cases hsy
      · cases hsy
    subst hys
    obtain ⟨news, hsrc, hnews⟩ := src_sound hsy hp hm hy hey hkk (fun u hu => by cases hu)
    have hn0 : news = [] := by have := hnews.length; exact List.length_eq_zero_iff.1 (by simpa using this)
    subst hn0
    rw [← hsz] at hsrc
    rcases hfirst with ⟨rfl, rfl, rfl, _, _⟩ | ⟨b, o, B, a, cap, rfl, rfl, hle, _⟩
    · exact RunsTo.same hm (by rw [Sem.run_bind, run_append_nothing w t tx ty e i ht hi none 0 0 (Nat.le_refl _) ry hsrc]; rfl) hx rfl rfl
    · exact RunsTo.same hm (by rw [Sem.run_bind, run_append_nothing w t tx ty e i ht hi (some a) n cap hle ry hsrc]; rfl) hx rfl rfl
  · have hres : vappend n m sz by_ x xs ys p q f g get nid = { v := .slice nid 0 (n + m) sz, pre := p ∧ q ∧ ((n + m) + (n + m) / 4 + 192) * by_ ≤ 281474976710656 ∧ n + m ≤ 281474976710656 ∧ (∀ u ∈ ys, u.one = true) ∧ ys.length = m * sz ∧ (∀ b ∈ f, ∃ cs, get b = some ⟨false, cs⟩), fp := f ++ g, old := f.map fun b => (b, none), news := [some ⟨false, xs ++ ys⟩] } := by unfold vappend; rw [if_neg hm0]
    rw [hres] at hp ⊢
    obtain ⟨hp1, hq, hby, hle63, hone, hyl, hrw⟩ := hp
    obtain ⟨news, hsrc, hnews⟩ := src_sound hsy hq hm hy hey hkk hone
    rw [← hsz] at hsrc
    have hcap0 : ∀ cap, cap < n + m → Builtin.nextslicecap (n + m) cap * i.bytes ≤ 281474976710656 := fun cap hc => by
      rw [hbz]
      exact Nat.le_trans (Nat.mul_le_mul_right _ (cap_wide hc)) hby
    -- there is no room
    have grow : ∀ (base : Option Addr) (cap : Nat) (olds : List Value), rx = .slice base n cap → cap < n + m → VRs ρ dom w xs olds → (Builtin.firstCells i.size n (.slice base n cap)).run P w.drew = .ok olds.toArray w.drew →
        RunsTo P (do pure (.value (← Builtin.append_ #[t, tx] ty #[rx, ry])) : Sem Next) w ρ dom get nid { v := .slice nid 0 (n + m) sz, pre := True, fp := f ++ g, old := f.map fun b => (b, none), news := [some ⟨false, xs ++ ys⟩] } := by
      intro base cap olds hrx hc ho hfc
      subst hrx
      have hr := run_append_grow_src w t tx ty e i zv ht hi hzv base n cap olds hfc ry m news hsrc hc (by omega) (hcap0 cap hc)
      have hcut : n + m ≤ grownCap w (n + m) cap e := Nat.le_add_right _ _
      have hxl : xs.length = n * sz := by
        rcases hfirst with ⟨_, _, rfl, rfl, _⟩ | ⟨b, o, B, a, cap', rfl, _, _, _, rfl, hpe, _⟩
        · simp
        · rw [hpe] at hp1; simp; omega
      have hol := ho.length
      have hnl := hnews.length
      have hrel : VRs ρ dom w (xs ++ ys) (olds ++ news) := ho.append hnews
      have hall : ((olds ++ news).toArray ++ Builtin.zeroCells zv.cells (grownCap w (n + m) cap e - (n + m))).size = grownCap w (n + m) cap e * sz := by
        rw [Array.size_append, size_zeroCells, hzs]
        simp only [List.size_toArray, List.length_append, hol, hnl, hxl, hyl]
        rw [← Nat.add_mul, ← Nat.add_mul]
        congr 1; omega
      have R := RunsTo.fresh (P := P) (nid := nid) (s := (do pure (.value (← Builtin.append_ #[t, tx] ty #[.slice base n cap, ry])) : Sem Next)) (res := { v := .slice nid 0 (n + m) sz, news := [some ⟨false, xs ++ ys⟩] }) (w1 := w.drew) (fz := (0, 0)) (cs := xs ++ ys) hm (Alike.drew w) hd (by rw [Sem.run_bind, hr]; rfl)
        (fun i' v hv => by
          obtain ⟨r, g1, g2⟩ := hrel.get hv
          have hlt : i' < (olds ++ news).length := (List.getElem?_eq_some_iff.1 g1).1
          exact ⟨r, by rw [Array.getElem?_append_left (by simpa using hlt)]; simpa using g1, g2⟩)
        (fun i _ h => by have := h.2; simp at this)
        (slice_new _ _ _ _ _ _ rfl hcut (by rw [hall]; exact Nat.le_refl _) (fun i _ h => by have := h.2; simp at this)) rfl rfl
      obtain ⟨ρ', w', r, g1, g2, g3, g4, g5⟩ := R
      refine ⟨ρ', w', r, g1, g2, g3.less (upd_kill_le get f nid _), g4, g5.less fun b B hB hro => ⟨b, B, upd_kill_le get f nid _ b B hB, hro, rfl⟩⟩
    have weaken : ∀ {res res' : Res} {s : Sem Next}, RunsTo P s w ρ dom get nid res → res.v = res'.v → res.old = res'.old → res.news = res'.news → RunsTo P s w ρ dom get nid res' := by
      intro res res' s h e1 e2 e3
      obtain ⟨ρ', w', r, g1, g2, g3, g4, g5⟩ := h
      exact ⟨ρ', w', r, g1, g2, by rw [← e2, ← e3]; exact g3, by rw [← e1, ← e3]; exact g4, by rw [← e2, ← e3]; exact g5⟩
    rcases hfirst with ⟨rfl, rfl, rfl, rfl, rfl⟩ | ⟨b, o, B, a, cap, rfl, rfl, hle, hgb, rfl, rfl, rfl, ha⟩
    · exact weaken (grow none 0 [] rfl (by omega) VRs.nil (run_firstCells_none w.drew i.size 0 0 0)) rfl rfl rfl
    · obtain ⟨cs, hcs⟩ := hrw b (by simp)
      rw [hcs] at hgb
      injection hgb with hgb
      subst hgb
      simp only at hp1 ⊢
      by_cases hroom : n + m ≤ cap
      · have hc0 : cap ≠ 0 := by omega
        obtain ⟨rfl, hth⟩ := ha hc0
        obtain ⟨g1, g2, g3⟩ := append_room (nid' := nid) hm hcs hd hp1 hnews hyl hroom hth
        have hnl := hnews.length
        have hmul : n * sz + m * sz ≤ cap * sz := by rw [← Nat.add_mul]; exact Nat.mul_le_mul_right _ hroom
        have hr := run_append_room_src w t tx ty e i ht hi (ρ b).1 ((ρ b).2 + o) n cap ry m news hsrc hroom
          (fun j hj => by
            have := (hth (n * i.size + j) (by rw [hsz]; omega)).1
            rw [← this]; congr 2; simp; omega)
          (fun j hj => by
            have := (hth (n * i.size + j) (by rw [hsz]; omega)).2
            rw [← this]; congr 2; omega)
        rw [hsz] at hr
        exact ⟨_, _, _, .inl (by rw [Sem.run_bind, hr]; rfl), extend_old hd, g1, g3, g2⟩
      · obtain ⟨rs, g1, g2⟩ := hm.range hcs o (n * sz)
        refine weaken (grow (some a) cap rs rfl (by omega) g1 ?_) rfl rfl rfl
        have hrl := g1.length
        refine run_firstCells_some w.drew i.size n a n cap rs (by rw [hrl, hsz]; simp at hp1 ⊢; omega) (fun j u hu => ?_)
        have hc0 : cap ≠ 0 := fun e => by
          have : n = 0 := by omega
          subst this
          simp at hrl
          subst hrl
          simp at hu
        obtain ⟨rfl, _⟩ := ha hc0
        rw [Addr.add_mid]
        simpa using g2 j u hu

theorem copy_sound {t tx ty e : TypeId} {b o len : Nat} {cs : List V} {y : V} {rx ry : Value} {m : Nat} {ys : List V} {q : Prop} {g : List Nat} (ht : P.underlying t = some (.slice e)) (hs : szOf P e = some 1)
    (hb : get b = some ⟨false, cs⟩) (hey : eszOk 1 y = true) (hsy : vsrc get y = some (m, ys, q, g)) (hq : q) (hle : o + len ≤ cs.length) (hyl : ys.length = m) (hone : ∀ u ∈ ys, u.one = true)
    (hx : VR ρ dom w (.slice b o len 1) rx) (hy : VR ρ dom w y ry) (hm : MemRel ρ dom get w) :
    RunsTo P (do pure (.value (← Builtin.copy_ #[t, tx] ty #[rx, ry])) : Sem Next) w ρ dom get nid { v := .i64 (min m len : Nat), old := [(b, some ⟨false, splice cs o (ys.take (min m len))⟩)] } := by
  unfold VR at hx
  obtain ⟨_, a, cap, rfl, hlc, ha⟩ := hx
  -- the source's cells
  have hsrc : ∃ news, (Builtin.lenOf ry).run P w = .ok m w ∧ (Builtin.firstCells 1 (min m len) ry).run P w = .ok news.toArray w ∧ VRs ρ dom w (ys.take (min m len)) news := by
    unfold vsrc at hsy
    split at hsy
    · injection hsy with hsy; simp only [Prod.mk.injEq] at hsy
      obtain ⟨rfl, rfl, _⟩ := hsy
      unfold VR at hy; subst hy
      exact ⟨[], rfl, run_firstCells_none w _ _ _ _, by simp; exact VRs.nil⟩
    · rename_i st
      injection hsy with hsy; simp only [Prod.mk.injEq] at hsy
      obtain ⟨rfl, rfl, _⟩ := hsy
      unfold VR at hy
      obtain ⟨bs, rfl, rfl⟩ := hy
      refine ⟨(byteCells bs).take (min (bytesOf bs).length len), by rw [bytesOf_length]; rfl, ?_, (byteCells_rel bs).take _⟩
      simp only [Builtin.firstCells, Sem.run_pure]
      congr 1
      apply Array.ext'
      unfold byteCells
      rw [← List.map_take]
      simp
    · rename_i b' o' len' esz
      split at hsy
      case h_2 => cases hsy
      rename_i B hB
      injection hsy with hsy; simp only [Prod.mk.injEq] at hsy
      obtain ⟨rfl, rfl, rfl, rfl⟩ := hsy
      simp [eszOk] at hey
      subst hey
      unfold VR at hy
      obtain ⟨_, a', cap', rfl, hlc', ha'⟩ := hy
      obtain ⟨rs, g1, g2⟩ := hm.range hB o' (len' * 1)
      have hrl := g1.length
      refine ⟨rs.take (min len' len), rfl, ?_, g1.take _⟩
      refine run_firstCells_some w 1 _ a' len' cap' _ (by simp at hrl hyl ⊢; omega) (fun j u hu => ?_)
      rw [List.getElem?_take] at hu
      split at hu
      case isFalse => cases hu
      rename_i hj
      obtain ⟨rfl, _⟩ := ha' (by omega)
      rw [Addr.add_mid]
      exact g2 j u hu
    · cases hsy
  obtain ⟨news, hl1, hl2, hrel⟩ := hsrc
  have hnl := hrel.length
  have htl : (ys.take (min m len)).length = min m len := by simp; omega
  have honeN : ∀ u ∈ news, u.oneCell' = true := fun u hu => by
    obtain ⟨i, hi, rfl⟩ := List.mem_iff_getElem.1 hu
    obtain ⟨r, g1, g2⟩ := hrel.get (i := i) (v := (ys.take (min m len))[i]'(by omega)) (List.getElem?_eq_getElem (by omega))
    rw [List.getElem?_eq_getElem hi] at g1
    injection g1 with g1
    rw [g1]
    exact one_oneCell (hone _ (List.mem_of_mem_take (List.getElem_mem _))) g2
  have hsize : (sizeOf e).run P w = .ok 1 w := by
    unfold szOf at hs
    cases hi : P.info? e with
    | none => rw [hi] at hs; cases hs
    | some i => rw [hi] at hs; injection hs with hs; simp [sizeOf, typeInfo, hi, hs]
  by_cases hz : min m len = 0
  · have hn0 : news = [] := List.length_eq_zero_iff.1 (by omega)
    subst hn0
    have ht0 : ys.take (min m len) = [] := List.length_eq_zero_iff.1 (by omega)
    rw [ht0]
    have hspl : splice cs o [] = cs := by unfold splice; simp
    rw [hspl]
    have hget : upd get [(b, some ⟨false, cs⟩)] nid [] = get := by
      rw [upd_one]; funext b'
      by_cases e : b' = b
      · subst e; simp [hb]
      · simp [e]
    refine ⟨ρ, w, .int .i64 (min m len : Nat), .inl ?_, fun _ _ => rfl, by rw [hget]; exact hm.monoDom dom_sub, by unfold VR; rfl, by rw [hget]; exact Frame.refl _ _ _⟩
    have e0 : Nat.min m len = 0 := hz
    have hl2' : (Builtin.firstCells 1 (Nat.min m len) ry).run P w = .ok #[] w := hl2
    simp [Builtin.copy_, run_underlying ht, hl1, hsize, hl2', storeCells, goInt]
  · obtain ⟨rfl, hth⟩ := ha (by omega)
    obtain ⟨g1, g2⟩ := store_block (nid := nid) (o := o) hm hb hrel (by omega)
    have hst := run_storeCells_cells (P := P) (ρ b).1 ((ρ b).2 + o) news 0 w (fun j hj => by
        have := (hth j (by omega)).1
        rw [← this]; congr 2) (fun j hj => by
        have := (hth j (by omega)).2
        rw [← this]; congr 2) honeN
    simp only [Nat.add_zero] at hst
    refine ⟨ρ, _, .int .i64 (min m len : Nat), .inl ?_, fun _ _ => rfl, g1, by unfold VR; rfl, g2⟩
    have hl2' : (Builtin.firstCells 1 (Nat.min m len) ry).run P w = .ok news.toArray w := hl2
    simp [Builtin.copy_, run_underlying ht, hl1, hsize, hl2', hst, goInt]
end
end Go.Vm
