/- A law whose arguments lie in memory: what is to be shown of it. -/
import Derived.Test.YtcilackefhieiaaVmZ2
set_option linter.unusedVariables false
set_option linter.unusedSimpArgs false
set_option linter.unusedSectionVars false
namespace Go.Vm
open Go.ChangeShapes Go.WideShapes Go.ChangeAt Go.RowKit
section
variable {H : Type} {enc : TypeId × Value → H} {P : Program} {W : World} {base : Nat}
theorem trodAll_stays (hl : laidOutB P = true) {W' : World} {sp' : Nat → Bool} : ∀ {ts : List TypeId} {vs : List Value} {ds : List (DataW H)} {ps : List MemPlace}, (∀ t ∈ ts, P.readableRec t = true ∧ t < P.types.size) →
    DataW.TrodAll enc P W 0 (fun _ => true) true ts vs ds ps → (∀ p ∈ ps, W.sameAt W' p) → (∀ p ∈ ps, sp' p.block = true) → DataW.TrodAll enc P W' 0 sp' true ts vs ds ps
  | [], _, _, _, _, h, _, _ => by
    obtain ⟨rfl, rfl, rfl⟩ := trodAll_nil h
    exact trodAll_mk0
  | t :: ts, _, _, _, hr, h, hs, hp => by
    obtain ⟨v, vs, d, ds, p, q, rfl, rfl, rfl, h1, h2⟩ := trodAll_cons h
    exact trodAll_cons_mk (WideElems.Trod_stays hl (hr t (by simp)).1 (hr t (by simp)).2 h1 (fun x hx => hs x (List.mem_append_left _ hx)) (fun x hx => hp x (List.mem_append_left _ hx)))
      (trodAll_stays hl (fun t ht => hr t (by simp [ht])) h2 (fun x hx => hs x (List.mem_append_right _ hx)) (fun x hx => hp x (List.mem_append_right _ hx)))
/-- A function over blocks that are only read: of all that was there nothing turns. -/
theorem spec_calls {f : FuncId} {vs : List V} {h h' : List (Option Blk)} {pl : List (Nat × Nat)} {args : List Value} {rargs : Array Value} {b : Bool} (hs : Spec0 P f vs h (.bool b) h') (hra : rargs.toList = args)
    (hv : ∀ (ρ : Nat → Nat × Nat) (dom : Nat → Prop), (∀ i, i < h.length → ρ (0 + i) = pl.getD i (0, 0) ∧ dom (0 + i)) → VRs ρ dom W vs args)
    (hm : ∀ (i : Nat) B, h[i]? = some (some B) → B.ro = true ∧ (pl.getD i (0, 0)).1 < W.heap.size ∧ ∀ (j : Nat) v, B.cs[j]? = some v → ∃ r, W.cell? ⟨(pl.getD i (0, 0)).1, (pl.getD i (0, 0)).2 + j, none⟩ = some r ∧ ∀ ρ dom w, VR ρ dom w v r) :
    Calls P f rargs W fun e W' => e = .returned (.bool b) ∧ Below W.heap.size W W' := by
  have hro : ∀ b B, getH h b = some B → B.ro = true := fun b B e => (hm b B (getH_some e)).1
  refine (hs (fun i => pl.getD i (0, 0)) W rargs (by rw [hra]; exact hv _ _ fun i hi => by simpa using hi) ⟨fun b B e => getH_lt e, fun b B e => (hm b B (getH_some e)).2.1, fun b b' B B' e _ hr _ => by rw [hro b B e] at hr; simp at hr, fun b B e i v hi => ?_, fun b B e hr => by rw [hro b B e] at hr; simp at hr⟩).mono ?_
  · obtain ⟨r, g1, g2⟩ := (hm b B (getH_some e)).2.2 i v hi
    exact ⟨r, g1, g2 _ _ _⟩
  · rintro e w' ⟨r, ρ', rfl, h1, _, _, _, h5⟩
    unfold VR at h1
    refine ⟨by rw [h1], h5.os, h5.tape, h5.output, h5.size, fun k hk => h5.keep k hk fun b B e hr => by rw [hro b B e] at hr; simp at hr⟩
theorem law_post2 {f : FuncId} {fn : Func} {s : ChangeSpec} {tb : TypeId} {ks : List ArgK} {args : Array Value} {ds gs : List (DataW H)} {before : List MemPlace} {fresh handsOn again : Bool}
    (hl : laidOutB P = true) (hrd : ∀ t ∈ fn.params.toList, P.readableRec t = true ∧ t < P.types.size)
    (hk : ArgKs P fn.params.toList ks) (hres : fn.resultTypes = #[tb]) (htb : P.underlying tb = some .bool) (hvars : s.vars = [])
    (hspec : ∀ ds : List (DataW H), ds.length = ks.length → (s.fn H ds).results = [.lit (.bool true)] ∧ (s.fn H ds).args = ds ∧ (s.fn H ds).vars = [])
    (hval : ∀ (j : Nat) t v, fn.params[j]? = some t → args[j]? = some v → Value.okWide P W .any base t v)
    (hW : DataW.Whole enc P fn.params.toList s.vars false W args.toList ds gs before) (hsz : (DataW.weightsEach P (fn.params.toList ++ s.plain.varTypes P) (ds ++ gs)).all (· ≤ reachBytes) = true)
    (law : ∀ vs h, ArgsOk ks 0 vs h → ∃ h', Spec0 P f vs h (.bool true) h') :
    Calls P f args W fun e W' => ∃ v, e = .returned v ∧ s.post enc P fn false fresh handsOn again W args v W' := by
  have hW' := hW
  have hlt := hW.lt
  obtain ⟨p, q, hA, hV, rfl, hfz, _⟩ := hW
  rw [hvars] at hV
  obtain ⟨rfl, rfl⟩ := trodVars_none hV
  have hs2 : (DataW.weightsEach P fn.params.toList ds).all (· ≤ reachBytes) = true := by
    have : s.plain.varTypes P = [] := by simp [ChangeSpec.plain, DataSpec.varTypes, hvars]
    rw [this, List.append_nil, List.append_nil] at hsz
    exact hsz
  simp only [List.append_nil] at hlt hfz
  obtain ⟨hdl, vs, h, pl, g1, _, g3, g4⟩ := open_args2 (base := base) 0 hk hA (fun j t v h1 h2 => hval j t v (by simpa using h1) (by simpa using h2)) hs2 hfz
  obtain ⟨k1, k2, k3⟩ := hspec ds hdl
  obtain ⟨h', hs⟩ := law vs h g1
  refine (spec_calls hs rfl g3 g4).mono fun e W' ⟨he, hg⟩ => ?_
  subst he
  have hsame : ∀ x ∈ p, W.sameAt W' x := fun x hx => hg.same (hlt x hx)
  have r1 : ∀ b sp hd, DataW.TrodAll enc P W' b sp hd fn.resultTypes.toList ((Value.bool true).resultList fn.resultTypes.size) (s.fn H (ds ++ [])).results [] := fun b sp hd => by
    rw [hres, List.append_nil, k1]; exact trodAll_cons_mk (shut_bool htb _) trodAll_mk0
  have r2 : ∀ sp : Nat → Bool, (∀ x ∈ p, sp x.block = true) → DataW.TrodAll enc P W' 0 sp true fn.params.toList args.toList (s.fn H (ds ++ [])).args p := fun sp hsp => by
    rw [List.append_nil, k2]; exact trodAll_stays hl hrd hA hsame hsp
  have r3 : ∀ sp, DataW.TrodVars enc P W' sp s.vars (s.fn H (ds ++ [])).vars [] := fun sp => by
    rw [hvars, List.append_nil, k3]; rfl
  refine ⟨_, rfl, ds, [], p ++ [], [], p, [], hW', r1 _ _ _, r2 _ (fun x hx => by simpa using hlt x hx), r3 _, hg.frame _, fun _ => ?_⟩
  refine ⟨ok_one hres rfl (okWide_bool_mk htb _), _, _, ([] ++ p) ++ [], ⟨[] ++ p, [], trodAll_append (r2 _ fun _ _ => rfl) (r1 _ _ _), r3 _, rfl, ?_, fun h => by cases h⟩, ?_⟩
  · intro b off hp
    simp only [List.nil_append, List.append_nil] at hp
    rw [hg.frozen (p := ⟨b, off, none⟩) (hlt _ hp)]
    exact hfz b off hp
  · intro x hx _
    simpa using hx
end
/-! Slices of one kind, as lists. -/
theorem rows_i64 : ∀ {rows : List (List V)}, (∀ r ∈ rows, Kinds [.i64] r) → ∃ zs : List Int, rows.flatten = zs.map V.i64 ∧ zs.length = rows.length ∧ ∀ z ∈ zs, -9223372036854775808 ≤ z ∧ z ≤ 9223372036854775807
  | [], _ => ⟨[], rfl, rfl, fun z h => by cases h⟩
  | r :: rows, h => by
    obtain ⟨zs, h1, h2, h3⟩ := rows_i64 (rows := rows) fun r hr => h r (by simp [hr])
    obtain ⟨v, l, rfl, ⟨n, rfl, hn⟩, hl⟩ := h r (by simp)
    have hl' : l = [] := hl
    subst hl'
    exact ⟨n :: zs, by simp [h1], by simp [h2], fun z hz => by rcases List.mem_cons.1 hz with rfl | hz; exact hn; exact h3 z hz⟩
theorem rows_u32 : ∀ {rows : List (List V)}, (∀ r ∈ rows, Kinds [.u32] r) → ∃ zs : List (BitVec 32), rows.flatten = zs.map V.u32 ∧ zs.length = rows.length
  | [], _ => ⟨[], rfl, rfl⟩
  | r :: rows, h => by
    obtain ⟨zs, h1, h2⟩ := rows_u32 (rows := rows) fun r hr => h r (by simp [hr])
    obtain ⟨v, l, rfl, ⟨n, rfl⟩, hl⟩ := h r (by simp)
    have hl' : l = [] := hl
    subst hl'
    exact ⟨n :: zs, by simp [h1], by simp [h2]⟩
end Go.Vm
namespace Go.Vm
theorem row_at {α : Type} {k : Nat} (hk : 0 < k) {rows : List (List α)} (h : ∀ r ∈ rows, r.length = k) {i : Nat} (hi : i < rows.length) : (rows.flatten.drop (i * k)).take k = rows.getD i [] := by
  have hr : (rows.getD i []).length = k := by
    rw [List.getD_eq_getElem?_getD, List.getElem?_eq_getElem hi]
    exact h _ (List.getElem_mem hi)
  refine List.ext_getElem? fun j => ?_
  by_cases hj : j < k
  · rw [List.getElem?_take_of_lt hj, List.getElem?_drop, flatten_get hk h]
    have e1 : (i * k + j) / k = i := by rw [Nat.mul_comm, Nat.mul_add_div hk, Nat.div_eq_of_lt hj, Nat.add_zero]
    have e2 : (i * k + j) % k = j := by rw [Nat.mul_comm, Nat.mul_add_mod, Nat.mod_eq_of_lt hj]
    rw [e1, e2, List.getElem?_eq_getElem hi, List.getD_eq_getElem?_getD, List.getElem?_eq_getElem hi]; rfl
  · rw [List.getElem?_eq_none (by simp; omega), List.getElem?_eq_none (by omega)]
/-- A step's cells. -/
theorem step_row {r : List V} (h : Kinds [.i64, .i64, .i64, .u32, .u32, .str, .u32, .i64] r) : ∃ (k a b : Int) (n m : BitVec 32) (s : List (BitVec 8)) (ad : BitVec 32) (bt : Int),
    r = [.i64 k, .i64 a, .i64 b, .u32 n, .u32 m, .str s, .u32 ad, .i64 bt] ∧ (-9223372036854775808 ≤ k ∧ k ≤ 9223372036854775807) ∧ (-9223372036854775808 ≤ a ∧ a ≤ 9223372036854775807) ∧ (-9223372036854775808 ≤ b ∧ b ≤ 9223372036854775807) ∧ s.length ≤ 140737488351232 ∧ (-9223372036854775808 ≤ bt ∧ bt ≤ 9223372036854775807) := by
  obtain ⟨_, _, rfl, ⟨k, rfl, hk⟩, _, _, rfl, ⟨a, rfl, ha⟩, _, _, rfl, ⟨b, rfl, hb⟩, _, _, rfl, ⟨n, rfl⟩, _, _, rfl, ⟨m, rfl⟩, _, _, rfl, ⟨s, rfl, hs⟩, _, _, rfl, ⟨ad, rfl⟩, _, _, rfl, ⟨bt, rfl, hbt⟩, rfl⟩ := h
  exact ⟨k, a, b, n, m, s, ad, bt, rfl, hk, ha, hb, hs, hbt⟩
end Go.Vm
namespace Go.Vm
theorem AK.plain {k : AK} {v : V} (h : k.is v) : (∀ σ, v.ren σ = v) ∧ ∀ N, v.low N := by
  cases k <;> unfold AK.is at h
  · obtain ⟨x, rfl⟩ := h; exact ⟨fun _ => by unfold V.ren; rfl, fun _ => by unfold V.low; trivial⟩
  · obtain ⟨x, rfl⟩ := h; exact ⟨fun _ => by unfold V.ren; rfl, fun _ => by unfold V.low; trivial⟩
  · obtain ⟨x, rfl⟩ := h; exact ⟨fun _ => by unfold V.ren; rfl, fun _ => by unfold V.low; trivial⟩
  · obtain ⟨x, rfl, _⟩ := h; exact ⟨fun _ => by unfold V.ren; rfl, fun _ => by unfold V.low; trivial⟩
  · obtain ⟨x, rfl, _⟩ := h; exact ⟨fun _ => by unfold V.ren; rfl, fun _ => by unfold V.low; trivial⟩
  · obtain ⟨x, rfl⟩ := h; exact ⟨fun _ => by unfold V.ren; rfl, fun _ => by unfold V.low; trivial⟩
  · obtain ⟨x, rfl, _⟩ := h; exact ⟨fun _ => by unfold V.ren; rfl, fun _ => by unfold V.low; trivial⟩
theorem Kinds.plain : ∀ {ks : List AK} {l : List V}, Kinds ks l → (∀ σ, rens σ l = l) ∧ ∀ N, lows N l
  | [], _, h => by unfold Kinds at h; subst h; exact ⟨fun _ => rfl, fun _ => trivial⟩
  | k :: ks, _, h => by
    obtain ⟨v, r, rfl, h1, h2⟩ := h
    have p1 := AK.plain h1
    have p2 := h2.plain
    exact ⟨fun σ => by unfold rens; rw [p1.1, p2.1], fun N => ⟨p1.2 N, p2.2 N⟩⟩
theorem plains_flat {ks : List AK} : ∀ {rows : List (List V)}, (∀ r ∈ rows, Kinds ks r) → (∀ σ, rens σ rows.flatten = rows.flatten) ∧ ∀ N, lows N rows.flatten
  | [], _ => ⟨fun _ => rfl, fun _ => trivial⟩
  | r :: rows, h => by
    have p1 := (h r (by simp)).plain
    have p2 := plains_flat (rows := rows) fun r hr => h r (by simp [hr])
    rw [List.flatten_cons]
    exact ⟨fun σ => by rw [rens_append, p1.1, p2.1], fun N => by rw [lows_append]; exact ⟨p1.2 N, p2.2 N⟩⟩
end Go.Vm
namespace Go.Vm
/-- A pure function over no blocks. -/
theorem pure_spec0 {P : Program} {f : FuncId} {args : List V} {v : V} (h : PureFn P f args v) : Spec0 P f args [] v [] := fun ρ w rargs hr hm => by
  refine (h.2 (fun _ => none) 0 ρ (· < 0) (getH []) w rargs hm hr (fun _ _ => by simp [getH]) (fun b _ h => by simp at h)).mono ?_
  rintro e w' ⟨r, ρ', rfl, h1, h2, h3, h4⟩
  rw [upd_nil] at h2 h4
  refine ⟨r, ρ', rfl, h3.mono (fun _ _ => rfl) (fun b hb => ?_) (Lasts.refl _), ⟨fun b B e => by simp [getH] at e, fun b B e => by simp [getH] at e, fun b b' B B' e => by simp [getH] at e, fun b B e => by simp [getH] at e, fun b B e => by simp [getH] at e⟩, Nat.le_refl _, fun b hb => h1 b hb, h4⟩
  rcases hb with hb | hb
  · exact hb
  · exact absurd hb.2 (by simp)
end Go.Vm
