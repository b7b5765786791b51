/-
  Plain laws on the data and on what the functions compute (no program in sight).
-/
import Derived.Test.YtdhopcnapgmhdaaGreatDoorZDy
set_option linter.unusedSimpArgs false
set_option linter.unusedVariables false
set_option linter.unusedSectionVars false
namespace Go.Hd
open Go Go.Sx
structure Inv (l : List Stp) (i : Nat) (cur : Nat → Option Stp) (last : List Int) (th : List Bool) (md : List Int) (M : Tolds) (c : Nat) : Prop where
  llen : last.length = 6
  tlen : th.length = 24
  mlen : md.length = 24
  lst : ∀ a, a < 6 → (cur a = none ∧ last[a]? = some 0) ∨ ∃ j s, j < i ∧ l[j]? = some s ∧ s.a % 6 = (a : Int) ∧ cur a = some s ∧ last[a]? = some ((j : Int) + 1)
  tht : ∀ a k, a < 6 → k < 4 → th[4 * a + k]? = some (has (cur a) k)
  mdt : ∀ a k s, a < 6 → k < 4 → cur a = some s → bitOf s.ids k = true → md[4 * a + k]? = some (s.med % 3 + k)
  told : (kv M).Perm (toldOf cur)
  ok : ToldsOk M
  wf : WF M c
theorem Inv.at {l i cur last th md M c} (h : Inv l i cur last th md M c) : ∀ a s, a < 6 → cur a = some s → s.a % 6 = (a : Int) := by
  intro a s ha hc
  rcases h.lst a ha with ⟨h1, _⟩ | ⟨j, s', _, _, h2, h3, _⟩
  · rw [h1] at hc; cases hc
  · rw [h3] at hc; cases hc; exact h2
theorem Inv.init (l : List Stp) : Inv l 0 (fun _ => none) (List.replicate 6 0) (List.replicate 24 false) (List.replicate 24 0) [] 0 := by
  refine ⟨rfl, rfl, rfl, fun a ha => .inl ⟨rfl, ?_⟩, fun a k ha hk => ?_, (fun a k s _ _ h => by cases h), ?_, ⟨by simp, by simp⟩, ⟨by simp, by simp, by simp⟩⟩
  · rw [List.getElem?_replicate, if_pos ha]
  · rw [List.getElem?_replicate, if_pos (by omega)]; rfl
  · have : toldOf (fun _ => none) = [] := by unfold toldOf; rw [List.flatMap_eq_nil_iff]; intro a _; rfl
    rw [this]; exact List.Perm.refl _
theorem mem_toldOf {cur : Nat → Option Stp} {x : (Pfx × Int) × Ch} : x ∈ toldOf cur ↔ ∃ a s k, a < 6 ∧ cur a = some s ∧ k < 4 ∧ bitOf s.ids k = true ∧ x = ((mkc s k).key, mkc s k) := by
  unfold toldOf asked
  simp only [List.mem_flatMap, List.mem_range, List.mem_map]
  constructor
  · rintro ⟨a, ha, c, hc, rfl⟩
    cases hcur : cur a with
    | none => rw [hcur] at hc; simp [wl] at hc
    | some s =>
      rw [hcur] at hc
      obtain ⟨k, hk, hb, rfl⟩ := mem_wantTo.1 hc
      exact ⟨a, s, k, ha, hcur, hk, hb, rfl⟩
  · rintro ⟨a, s, k, ha, hc, hk, hb, rfl⟩
    exact ⟨a, ha, mkc s k, by rw [hc]; exact mem_wantTo.2 ⟨k, hk, hb, rfl⟩, rfl⟩
/-- Where in the tables a change stands. -/
def pos (s : Stp) (c : Ch) : Nat := 4 * slot s + c.n.id.toNat
section
variable {l : List Stp} {i : Nat} {cur : Nat → Option Stp} {last : List Int} {th : List Bool} {md : List Int} {M : Tolds} {c : Nat} {s : Stp} {out : List Ch}
/-- What was told of the step's prefix. -/
theorem Inv.mem (h : Inv l i cur last th md M c) {e : (Pfx × Int) × Ch × Nat} (he : e ∈ M) (hp : e.1.1 = pfx s.a) : ∃ s' k, cur (slot s) = some s' ∧ k < 4 ∧ bitOf s'.ids k = true ∧ e.2.1 = mkc s' k ∧ e.1 = (pfx s.a, (k : Int)) ∧ pfx s'.a = pfx s.a := by
  have h1 : (e.1, e.2.1) ∈ toldOf cur := h.told.mem_iff.1 (List.mem_map.2 ⟨e, he, rfl⟩)
  obtain ⟨a, s', k, ha, hc, hk, hb, hx⟩ := mem_toldOf.1 h1
  simp only [Prod.mk.injEq] at hx
  obtain ⟨hx1, hx2⟩ := hx
  have h2 := h.at a s' ha hc
  rw [hx1, mkc_key] at hp
  have h3 := pfx_inj hp
  have : a = slot s := by unfold slot; omega
  subst this
  exact ⟨s', k, hc, hk, hb, hx2, by rw [hx1, mkc_key]; exact Prod.ext hp rfl, hp⟩
theorem Inv.mget (h : Inv l i cur last th md M c) {x : Ch} (hx : x.n.p = pfx s.a) : Sx.mget x.key M = some x ↔ ∃ s' k, cur (slot s) = some s' ∧ k < 4 ∧ bitOf s'.ids k = true ∧ x = mkc s' k := by
  rw [mget_iff h.wf.keys]
  constructor
  · intro hm
    obtain ⟨e, he, hee⟩ := List.mem_map.1 hm
    simp only [Prod.mk.injEq] at hee
    obtain ⟨s', k, h1, h2, h3, h4, _, _⟩ := h.mem (s := s) he (by rw [hee.1]; exact hx)
    exact ⟨s', k, h1, h2, h3, by rw [← hee.2, h4]⟩
  · rintro ⟨s', k, h1, h2, h3, rfl⟩
    have : ((mkc s' k).key, mkc s' k) ∈ kv M := h.told.mem_iff.2 (mem_toldOf.2 ⟨slot s, s', k, slot_lt s, h1, h2, h3, rfl⟩)
    exact this
/-- What the changes of a step are. -/
theorem Inv.outs (h : Inv l i cur last th md M c) (ho : out.Perm (outOf M (pfx s.a) (wantTo s 4))) : ∀ x ∈ out, ∃ k : Nat, k < 4 ∧ x.n.p = pfx s.a ∧ x.n.id = (k : Int) ∧
    ((x.gone = true ∧ has (cur (slot s)) k = true ∧ bitOf s.ids k = false) ∨ (x = mkc s k ∧ bitOf s.ids k = true ∧ ¬ ∃ s', cur (slot s) = some s' ∧ bitOf s'.ids k = true ∧ mkc s k = mkc s' k)) := by
  intro x hx
  have hx := ho.mem_iff.1 hx
  unfold outOf at hx
  rcases List.mem_append.1 hx with hx | hx
  · unfold dels at hx
    obtain ⟨e, he, rfl⟩ := List.mem_map.1 hx
    obtain ⟨he1, he2⟩ := List.mem_filter.1 he
    unfold toDel at he2
    simp only [Bool.and_eq_true, decide_eq_true_eq, Bool.not_eq_true', decide_eq_false_iff_not] at he2
    obtain ⟨s', k, h1, h2, h3, h4, h5, h6⟩ := h.mem (s := s) he1 he2.1
    refine ⟨k, h2, ?_, ?_, .inl ⟨rfl, by rw [h1]; exact h3, ?_⟩⟩
    · rw [h4]; exact h6
    · rw [h4]; rfl
    · cases hb : bitOf s.ids k with
      | false => rfl
      | true =>
        refine absurd ?_ he2.2
        rw [wantTo_keys]
        exact List.mem_map.2 ⟨k, List.mem_filter.2 ⟨by simpa using h2, hb⟩, h5.symm⟩
  · obtain ⟨hx1, hx2⟩ := List.mem_filter.1 hx
    obtain ⟨k, hk, hb, rfl⟩ := mem_wantTo.1 hx1
    refine ⟨k, hk, rfl, rfl, .inr ⟨rfl, hb, ?_⟩⟩
    rintro ⟨s', h1, h2, h3⟩
    unfold toAdd at hx2
    simp only [Bool.not_eq_true', decide_eq_false_iff_not] at hx2
    refine hx2 ((h.mget (s := s) rfl).2 ⟨s', k, h1, hk, h2, h3⟩)
theorem asc_of (hs : out.Pairwise fun x y => cmpC x y ≤ 0) (hn : (out.map Ch.key).Nodup) (hp : ∀ x ∈ out, x.n.p = pfx s.a) : out.Pairwise fun x y => x.n.id < y.n.id := by
  rw [List.nodup_iff_pairwise_ne, List.pairwise_map] at hn
  refine (hs.and hn).imp_of_mem ?_
  intro x y hx hy hxy
  obtain ⟨h1, h2⟩ := hxy
  rw [cmpC, hp x hx, hp y hy] at h1
  have h0 : cmpP (pfx s.a) (pfx s.a) = 0 := by
    have := cmpP_cmpr.flip (pfx s.a) (pfx s.a); omega
  rw [h0] at h1
  have h1 : cmpI x.n.id y.n.id ≤ 0 := by simpa [orI] using h1
  rw [cmpI_le] at h1
  have : x.n.id ≠ y.n.id := fun e => h2 (by unfold Ch.key; rw [hp x hx, hp y hy, e])
  omega
theorem outs_nodup (hwf : WF M c) (hok : ToldsOk M) {p : Pfx} {W : List Ch} (hm : mayL p W = true) (ho : out.Perm (outOf M p W)) : (out.map Ch.key).Nodup := by
  rw [(ho.map Ch.key).nodup_iff]
  unfold outOf dels
  rw [List.map_append, List.nodup_append, List.map_map]
  have e1 : (M.filter (toDel p W)).map (Ch.key ∘ fun e => goneOf e.2.1) = (M.filter (toDel p W)).map (·.1) :=
    List.map_congr_left fun e he => by simp only [Function.comp, goneOf_key]; exact hok.key e (List.mem_filter.1 he).1
  unfold mayL at hm
  simp only [Bool.and_eq_true, decide_eq_true_eq] at hm
  rw [e1]
  refine ⟨hwf.keys.sublist (List.Sublist.map _ List.filter_sublist), hm.2.sublist (List.Sublist.map _ List.filter_sublist), ?_⟩
  intro a ha b hb hab
  subst hab
  obtain ⟨e, he, rfl⟩ := List.mem_map.1 ha
  obtain ⟨x, hx, hxe⟩ := List.mem_map.1 hb
  have := (List.mem_filter.1 he).2
  simp only [toDel, Bool.and_eq_true, Bool.not_eq_true', decide_eq_false_iff_not] at this
  exact this.2 (List.mem_map.2 ⟨x, (List.mem_filter.1 hx).1, hxe⟩)
/-- The tables when the first k changes are done. -/
def thTo (s : Stp) (th : List Bool) (L : List Ch) : List Bool := setAll (pos s) (fun c : Ch => !c.gone) th L
def mdTo (s : Stp) (md : List Int) (L : List Ch) : List Int := setAll (pos s) (fun c : Ch => c.a.med) md L
/-- At a change: what the tables say. -/
theorem Inv.seen (h : Inv l i cur last th md M c) (ho : out.Perm (outOf M (pfx s.a) (wantTo s 4))) (hasc : out.Pairwise fun x y => x.n.id < y.n.id) {k : Nat} (hk : k < out.length) :
    ∃ t, (thTo s th (out.take k))[pos s out[k]]? = some t ∧ (out[k].gone = true → t = true) ∧ (out[k].gone = false → t = true → ∃ m, (mdTo s md (out.take k))[pos s out[k]]? = some m ∧ m ≠ out[k].a.med) := by
  obtain ⟨j, hj, hp, hid, hor⟩ := h.outs ho out[k] (List.getElem_mem hk)
  have hpos : pos s out[k] = 4 * slot s + j := by unfold pos; rw [hid]; simp
  have hother : ∀ x ∈ out.take k, pos s x ≠ pos s out[k] := by
    intro x hx
    obtain ⟨q, hq, rfl⟩ := List.mem_iff_getElem.1 hx
    rw [List.getElem_take]
    rw [List.length_take] at hq
    have h1 := List.pairwise_iff_getElem.1 hasc q k (by omega) hk (by omega)
    obtain ⟨j', _, _, hid', _⟩ := h.outs ho (out[q]'(by omega)) (List.getElem_mem _)
    unfold pos
    omega
  have hs := slot_lt s
  have e1 : (thTo s th (out.take k))[pos s out[k]]? = some (has (cur (slot s)) j) := by
    unfold thTo
    rw [setAll_other _ _ _ _ _ hother, hpos]
    exact h.tht _ _ hs hj
  refine ⟨_, e1, ?_, ?_⟩
  · intro hg
    rcases hor with ⟨_, h2, _⟩ | ⟨h1, _⟩
    · exact h2
    · rw [h1] at hg; cases hg
  · intro hg ht
    rcases hor with ⟨h1, _⟩ | ⟨h1, h2, h3⟩
    · rw [h1] at hg; cases hg
    · cases hc : cur (slot s) with
      | none => rw [hc] at ht; cases ht
      | some s' =>
        rw [hc] at ht
        have ht : bitOf s'.ids j = true := ht
        refine ⟨s'.med % 3 + j, ?_, ?_⟩
        · unfold mdTo
          rw [setAll_other _ _ _ _ _ hother, hpos]
          exact h.mdt _ _ _ hs hj hc ht
        · intro e
          refine h3 ⟨s', hc, ht, ?_⟩
          have h4 := h.at _ _ hs hc
          have h5 : pfx s'.a = pfx s.a := pfx_slot (by unfold slot at h4; omega)
          unfold pfx at h5
          simp only [Pfx.mk.injEq, true_and, and_true] at h5
          rw [h1] at e
          have e : s'.med % 3 + j = s.med % 3 + j := e
          unfold mkc
          rw [h5.1, h5.2, e]
/-- One step more. -/
theorem Inv.step (h : Inv l i cur last th md M c) (hl : l[i]? = some s) (hso : s.ok) {M' : Tolds} {c' : Nat} (hk : (kv M').Perm ((kv M).filter (fun e => !decide (e.1.1 = pfx s.a)) ++ asked (wantTo s 4))) (hT : ToldsOk M') (hw : WF M' c')
    (ho : out.Perm (outOf M (pfx s.a) (wantTo s 4))) (hasc : out.Pairwise fun x y => x.n.id < y.n.id) :
    Inv l (i + 1) (upd cur (slot s) s) (last.set (slot s) ((i : Int) + 1)) (thTo s th out) (mdTo s md out) M' c' := by
  have hs := slot_lt s
  have hsa : s.a % 6 = (slot s : Int) := by unfold slot; omega
  have huniq : ∀ x ∈ out, ∀ y ∈ out, pos s x = pos s y → x = y := by
    intro x hx y hy hxy
    obtain ⟨q1, hq1, rfl⟩ := List.mem_iff_getElem.1 hx
    obtain ⟨q2, hq2, rfl⟩ := List.mem_iff_getElem.1 hy
    obtain ⟨j1, _, _, hi1, _⟩ := h.outs ho _ hx
    obtain ⟨j2, _, _, hi2, _⟩ := h.outs ho _ hy
    unfold pos at hxy
    rcases Nat.lt_trichotomy q1 q2 with hlt | rfl | hlt
    · have := List.pairwise_iff_getElem.1 hasc q1 q2 hq1 hq2 hlt; omega
    · rfl
    · have := List.pairwise_iff_getElem.1 hasc q2 q1 hq2 hq1 hlt; omega
  have hposr : ∀ x ∈ out, 4 * slot s ≤ pos s x ∧ pos s x < 4 * slot s + 4 := by
    intro x hx
    obtain ⟨j, hj, _, hid, _⟩ := h.outs ho x hx
    unfold pos; rw [hid]; simp; omega
  refine ⟨by simp [h.llen], (setAll_length _ _ _ _).trans h.tlen, (setAll_length _ _ _ _).trans h.mlen, ?_, ?_, ?_, ?_, hT, hw⟩
  · intro a ha
    by_cases hab : a = slot s
    · subst hab
      exact .inr ⟨i, s, by omega, hl, hsa, by simp [upd], by rw [List.getElem?_set]; simp [h.llen, hs]⟩
    · have e1 : upd cur (slot s) s a = cur a := by simp [upd, hab]
      rw [e1, List.getElem?_set_ne (Ne.symm hab)]
      rcases h.lst a ha with h1 | ⟨j, s', h1, h2⟩
      · exact .inl h1
      · exact .inr ⟨j, s', by omega, h2⟩
  · intro a k ha hk4
    by_cases hab : a = slot s
    · subst hab
      have e1 : upd cur (slot s) s (slot s) = some s := by simp [upd]
      rw [e1]
      unfold thTo
      by_cases hin : ∃ x ∈ out, pos s x = 4 * slot s + k
      · obtain ⟨x, hx, hxp⟩ := hin
        rw [setAll_at _ _ _ _ _ (by rw [h.tlen]; omega) x hx hxp (fun y hy hyp => by rw [huniq y hy x hx (by rw [hyp, hxp])])]
        obtain ⟨j, hj, hp, hid, hor⟩ := h.outs ho x hx
        have : j = k := by unfold pos at hxp; rw [hid] at hxp; simp at hxp; exact hxp
        subst this
        rcases hor with ⟨h1, _, h3⟩ | ⟨h1, h2, _⟩
        · rw [h1]; show some false = some (bitOf s.ids j); rw [h3]
        · rw [h1]; show some true = some (bitOf s.ids j); rw [h2]
      · rw [setAll_other _ _ _ _ _ (fun x hx hxp => hin ⟨x, hx, hxp⟩), h.tht _ _ hs hk4]
        congr 1
        show has (cur (slot s)) k = bitOf s.ids k
        have hno : ∀ x ∈ outOf M (pfx s.a) (wantTo s 4), x.n.id ≠ (k : Int) := by
          intro x hx he
          exact hin ⟨x, ho.mem_iff.2 hx, by unfold pos; rw [he]; simp⟩
        cases hb : bitOf s.ids k with
        | true =>
          have hg : Sx.mget (mkc s k).key M = some (mkc s k) := by
            refine Decidable.byContradiction fun hn => ?_
            refine hno (mkc s k) ?_ rfl
            unfold outOf
            exact List.mem_append_right _ (List.mem_filter.2 ⟨mem_wantTo.2 ⟨k, hk4, hb, rfl⟩, by simp [toAdd, hn]⟩)
          obtain ⟨s', k', h1, h2, h3, h4⟩ := (h.mget (s := s) rfl).1 hg
          have : k = k' := by have := congrArg (fun x => x.n.id) h4; simp [mkc] at this; omega
          subst this
          rw [h1]; exact h3
        | false =>
          cases hc : cur (slot s) with
          | none => rfl
          | some s' =>
            show bitOf s'.ids k = false
            cases hb' : bitOf s'.ids k with
            | false => rfl
            | true =>
              exfalso
              have h4 := h.at _ _ hs hc
              have h5 : pfx s'.a = pfx s.a := pfx_slot (by omega)
              have h6 : ((mkc s' k).key, mkc s' k) ∈ kv M := h.told.mem_iff.2 (mem_toldOf.2 ⟨slot s, s', k, hs, hc, hk4, hb', rfl⟩)
              obtain ⟨e, he, hee⟩ := List.mem_map.1 h6
              simp only [Prod.mk.injEq] at hee
              refine hno (goneOf e.2.1) ?_ (by rw [hee.2]; rfl)
              unfold outOf dels
              refine List.mem_append_left _ (List.mem_map.2 ⟨e, List.mem_filter.2 ⟨he, ?_⟩, rfl⟩)
              rw [toDel_yes (by rw [hee.1, mkc_key]; exact h5)]
              rw [hee.1, mkc_key, wantTo_keys, h5]
              intro hm
              obtain ⟨k', hk', hke⟩ := List.mem_map.1 hm
              simp at hke
              have : k' = k := by exact_mod_cast hke
              subst this
              rw [(List.mem_filter.1 hk').2] at hb; cases hb
    · have e1 : upd cur (slot s) s a = cur a := by simp [upd, hab]
      rw [e1]
      unfold thTo
      rw [setAll_other _ _ _ _ _ (fun x hx hxp => by have := hposr x hx; omega)]
      exact h.tht _ _ ha hk4
  · intro a k s' ha hk4 hc hb
    by_cases hab : a = slot s
    · subst hab
      have e1 : upd cur (slot s) s (slot s) = some s := by simp [upd]
      rw [e1] at hc; cases hc
      unfold mdTo
      by_cases hin : ∃ x ∈ out, pos s x = 4 * slot s + k
      · obtain ⟨x, hx, hxp⟩ := hin
        rw [setAll_at _ _ _ _ _ (by rw [h.mlen]; omega) x hx hxp (fun y hy hyp => by rw [huniq y hy x hx (by rw [hyp, hxp])])]
        obtain ⟨j, hj, hp, hid, hor⟩ := h.outs ho x hx
        have : j = k := by unfold pos at hxp; rw [hid] at hxp; simp at hxp; exact hxp
        subst this
        rcases hor with ⟨_, _, h3⟩ | ⟨h1, _⟩
        · rw [h3] at hb; cases hb
        · rw [h1]; rfl
      · rw [setAll_other _ _ _ _ _ (fun x hx hxp => hin ⟨x, hx, hxp⟩)]
        have hg : Sx.mget (mkc s k).key M = some (mkc s k) := by
          refine Decidable.byContradiction fun hn => ?_
          refine hin ⟨mkc s k, ho.mem_iff.2 ?_, rfl⟩
          unfold outOf
          exact List.mem_append_right _ (List.mem_filter.2 ⟨mem_wantTo.2 ⟨k, hk4, hb, rfl⟩, by simp [toAdd, hn]⟩)
        obtain ⟨s', k', h1, h2, h3, h4⟩ := (h.mget (s := s) rfl).1 hg
        have hkk : k = k' := by have := congrArg (fun x => x.n.id) h4; simp [mkc] at this; omega
        subst hkk
        rw [h.mdt _ _ _ hs hk4 h1 h3]
        have := congrArg (fun x => x.a.med) h4
        simp only [mkc] at this
        rw [this]
    · have e1 : upd cur (slot s) s a = cur a := by simp [upd, hab]
      rw [e1] at hc
      unfold mdTo
      rw [setAll_other _ _ _ _ _ (fun x hx hxp => by have := hposr x hx; omega)]
      exact h.mdt _ _ _ ha hk4 hc hb
  · refine hk.trans (List.Perm.trans ?_ (toldOf_upd h.at))
    exact List.Perm.append_right _ (h.told.filter _)
end
end Go.Hd
namespace Go.Hd
open Go Go.Sx
theorem wl_len (o : Option Stp) (n : Nat) : (wl o n).length ≤ n := by
  cases o with
  | none => simp [wl]
  | some s => exact wantTo_len s n
theorem toldOf_len (cur : Nat → Option Stp) : (toldOf cur).length ≤ 24 := by
  unfold toldOf
  have h : ∀ n, ((List.range n).flatMap fun a => asked (wl (cur a) 4)).length ≤ 4 * n := by
    intro n
    induction n with
    | zero => simp
    | succ n ih =>
      rw [List.range_succ, List.flatMap_append, List.length_append, List.flatMap_singleton, asked_length]
      have := wl_len (cur n) 4
      omega
  exact h 6
theorem Inv.len {l : List Stp} {i : Nat} {cur : Nat → Option Stp} {last : List Int} {th : List Bool} {md : List Int} {M : Tolds} {c : Nat} (h : Inv l i cur last th md M c) : M.length ≤ 24 := by
  have := h.told.length_eq
  rw [kv_length] at this
  rw [this]; exact toldOf_len cur
end Go.Hd
namespace Go.Hd
open Go Go.Sx
theorem eqPB_self (p : Pfx) : eqPB p p = true := by simp [eqPB]
theorem map_get {α : Type} (f : α → Value) {l : List α} {n : Nat} {x : α} (h : l[n]? = some x) : (l.map f)[n]? = some (f x) := by simp [h]
theorem flat_cut {α : Type} {enc : α → List Value} {k : Nat} (hk : ∀ x, (enc x).length = k) (l : List α) (i : Nat) (x : α) (h : l[i]? = some x) : (((l.map enc).flatten).drop (i * k)).take k = enc x := by
  apply List.ext_getElem?
  intro j
  rw [List.getElem?_take, List.getElem?_drop]
  split
  · rename_i hj
    have hlt : j < (enc x).length := by rw [hk]; exact hj
    rw [flat_part hk l i j x (enc x)[j] h (by simp [hlt])]; simp [hlt]
  · rename_i hj
    rw [List.getElem?_eq_none (by rw [hk]; omega)]
end Go.Hd
namespace Go.Hd
open Go Go.Sx
/-! ### The count -/
def cntTo (cur : Nat → Option Stp) (n : Nat) : Nat := ((List.range n).flatMap fun a => asked (wl (cur a) 4)).length
theorem cntTo_succ (cur : Nat → Option Stp) (n : Nat) : cntTo cur (n + 1) = cntTo cur n + (wl (cur n) 4).length := by
  unfold cntTo
  rw [List.range_succ, List.flatMap_append, List.length_append, List.flatMap_singleton, asked_length]
theorem cntTo_le (cur : Nat → Option Stp) : ∀ n, cntTo cur n ≤ 4 * n
  | 0 => by simp [cntTo]
  | n + 1 => by rw [cntTo_succ]; have := cntTo_le cur n; have := wl_len (cur n) 4; omega
theorem wl_succ_len (o : Option Stp) (J : Nat) : (wl o (J + 1)).length = (wl o J).length + if has o J then 1 else 0 := by
  cases o with
  | none => rfl
  | some s =>
    show (wantTo s (J + 1)).length = (wantTo s J).length + if bitOf s.ids J then 1 else 0
    rw [wantTo_succ, List.length_append]
    cases bitOf s.ids J <;> rfl
theorem wl_mem {o : Option Stp} {c : Ch} (h : c ∈ wl o 4) : ∃ s k, o = some s ∧ k < 4 ∧ bitOf s.ids k = true ∧ c = mkc s k := by
  cases o with
  | none => simp [wl] at h
  | some s => obtain ⟨k, h1, h2, h3⟩ := mem_wantTo.1 h; exact ⟨s, k, rfl, h1, h2, h3⟩
theorem any_has (o : Option Stp) (J : Nat) (hJ : J < 4) : (wl o 4).any (fun c => c.n.id == (J : Int)) = has o J := by
  rw [Bool.eq_iff_iff, List.any_eq_true]
  constructor
  · rintro ⟨c, hc, he⟩
    obtain ⟨s, k, rfl, _, hb, rfl⟩ := wl_mem hc
    have : (k : Int) = J := by simpa [mkc] using he
    have : k = J := by omega
    subst this; exact hb
  · intro h
    cases o with
    | none => cases h
    | some s => exact ⟨mkc s J, mem_wantTo.2 ⟨J, hJ, h, rfl⟩, by simp [mkc]⟩
theorem Inv.total {l : List Stp} {i : Nat} {cur : Nat → Option Stp} {last : List Int} {th : List Bool} {md : List Int} {M : Tolds} {c : Nat} (h : Inv l i cur last th md M c) : cntTo cur 6 = M.length := by
  have := h.told.length_eq
  rw [kv_length] at this
  rw [this]; rfl
/-- At a wanted one: what the tables say. -/
theorem Inv.want {l : List Stp} {i : Nat} {cur : Nat → Option Stp} {last : List Int} {th : List Bool} {md : List Int} {M : Tolds} {c : Nat} (h : Inv l i cur last th md M c) {A J : Nat} (hA : A < 6) {x : Ch} (hx : x ∈ wl (cur A) 4) (hJ : x.n.id = (J : Int)) :
    th[4 * A + J]? = some true ∧ md[4 * A + J]? = some x.a.med := by
  obtain ⟨s, k, hc, hk, hb, rfl⟩ := wl_mem hx
  have : k = J := by have : (k : Int) = J := hJ; omega
  subst this
  refine ⟨?_, h.mdt A k s hA hk hc hb⟩
  rw [h.tht A k hA hk, hc]; exact congrArg some hb
end Go.Hd
namespace Go.Hd
open Go Go.Sx
/-- What 'All' hands back, in order: no key twice. -/
theorem all_facts {M : Tolds} {c : Nat} {L : List Ch} (hwf : WF M c) (hok : ToldsOk M) (hp : L.Perm (M.map (·.2.1))) (hs : L.Pairwise fun x y => cmpC x y ≤ 0) :
    L.length = M.length ∧ L.Pairwise fun x y => cmpP x.n.p y.n.p ≤ 0 ∧ (cmpP x.n.p y.n.p = 0 → x.n.id < y.n.id) := by
  refine ⟨by rw [hp.length_eq, List.length_map], ?_⟩
  have hn : (L.map Ch.key).Nodup := by
    rw [(hp.map Ch.key).nodup_iff, List.map_map]
    have : M.map (Ch.key ∘ fun e => e.2.1) = M.map (·.1) := List.map_congr_left fun e he => hok.key e he
    rw [this]; exact hwf.keys
  rw [List.nodup_iff_pairwise_ne, List.pairwise_map] at hn
  refine (hs.and hn).imp ?_
  intro x y hxy
  obtain ⟨h1, h2⟩ := hxy
  rw [cmpC, orI_le] at h1
  refine ⟨by omega, fun h0 => ?_⟩
  rw [h0, cmpI_le] at h1
  have : x.n.id ≠ y.n.id := fun e => h2 (by unfold Ch.key; rw [cmpP_zero h0, e])
  omega
end Go.Hd
