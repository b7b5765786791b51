/-
  Own lemmas for walks over memory: states, blocks, maps, rows (no program in sight but the rules).
-/
import Derived.Test.YtdhopcnapgmhdaaGreatDoorZSh
set_option linter.unusedSimpArgs false
set_option linter.unusedVariables false
set_option linter.unusedSectionVars false
namespace Go.Sx
open Go.RowKit
/-! ### An operation that looks at slots alone may be taken ahead of a later one -/
section
variable {P : Program} {ops : Array Oper} {Q : Exit → Act → World → Prop}
def addE (i : Nat) (o : Oper) : Oper := { o with after := o.after.push ⟨i, .data⟩ }
def edgeL (l : List Oper) (i j : Nat) : List Oper := l.modify j (addE i)

theorem extract_cases {o : Oper} {x : Operand} {k : Nat} (h : o.op = .extract x k) (hg : o.guard = none) (a : Act) :
    (∃ v, Yields P ops o v a) ∨ ∀ K w, ¬ (o.wp P a w K Q ∨ (o.asks P a w ∧ LetsOut Q)) := by
  obtain ⟨dst, op, type, pos, after, guard⟩ := o
  simp only at h hg
  subst h; subst hg
  have hw : ∀ f, Region.wanted ⟨dst, .extract x k, type, pos, after, none⟩ f = true := fun f => rfl
  have bad : ∀ s : String, execOp a.eval ⟨dst, .extract x k, type, pos, after, none⟩ = .halt (.stuck s) → ∀ K w, ¬ (Oper.wp P ⟨dst, .extract x k, type, pos, after, none⟩ a w K Q ∨ (Oper.asks P ⟨dst, .extract x k, type, pos, after, none⟩ a w ∧ LetsOut Q)) := by
    intro s hs K w
    rintro (h | ⟨h, _⟩)
    · unfold Oper.wp at h; rw [hs] at h; exact h
    · unfold Oper.asks at h; rw [hs] at h
      have h1 : noRoomEvent ∈ (#[] : Array Event) := h.1
      simp at h1
  cases he : a.eval x with
  | tuple vs =>
    cases hk : vs[k]? with
    | some v => exact .inl ⟨v, .inl ⟨hw _, fun w => by simp [execOp, Instr.extract, he, hk, Sem.run]⟩⟩
    | none => exact .inr (bad _ (by simp [execOp, Instr.extract, he, hk]; rfl))
  | _ => exact .inr (bad _ (by simp [execOp, Instr.extract, he]; rfl))

theorem wpOp_same {ops' : Array Oper} (hsz : ∀ k : Nat, (ops'[k]?).map (fun o : Oper => (o.dst, o.op, o.type, o.pos, o.guard)) = (ops[k]?).map (fun o : Oper => (o.dst, o.op, o.type, o.pos, o.guard))) (k : Nat) (K : Act → World → Prop) (a : Act) (w : World) :
    wpOp P ops' Q k K a w ↔ wpOp P ops Q k K a w := by
  have hy : ∀ t, yielded ops' t = yielded ops t := by
    intro t; funext j
    unfold yielded
    have : (ops'[j]?).bind (·.dst) = (ops[j]?).bind (·.dst) := by
      have := hsz j
      cases h1 : ops'[j]? <;> cases h2 : ops[j]? <;> simp_all
    rw [this]
  unfold wpOp
  have := hsz k
  cases h1 : ops'[k]? <;> cases h2 : ops[k]? <;> simp_all
  rename_i o' o
  obtain ⟨d, op, ty, pos, af, g⟩ := o
  obtain ⟨d', op', ty', pos', af', g'⟩ := o'
  simp only at this
  obtain ⟨rfl, rfl, rfl, rfl, rfl⟩ := this
  exact Iff.rfl

theorem wpAny_edge {i j : Nat} {oi oj : Oper} {x : Operand} {k : Nat} (hi : ops[i]? = some oi) (hj : ops[j]? = some oj) (hij : i ≠ j) (hex : oi.op = .extract x k) (hg : oi.guard = none)
    (hsel : ∀ (j : Nat) (o : Oper) cs b, ops[j]? = some o → o.op ≠ .select cs b)
    (hdeps : ∀ e ∈ oi.after, Region.binds .any e = true → ∃ e' ∈ oj.after, Region.binds .any e' = true ∧ e'.on = e.on)
    (hap : ∀ k ok, ops[k]? = some ok → k ≠ i → (∀ e ∈ oi.after, Region.binds .any e = true → e.on ≠ k) → (∀ e ∈ ok.after, Region.binds .any e = true → e.on ≠ i) → oi.apart ops ok = true)
    (hQ : ∀ v c a w, Q (.panic c) (a.put oi.dst v) w → Q (.panic c) a w) :
    ∀ (n : Nat) (listed : Array Bool) (a : Act) (w : World), listed.size = ops.size → wpAny P .any (ops.setIfInBounds j (addE i oj)) Q n listed a w → wpAny P .any ops Q n listed a w := by
  have hsame : ∀ k : Nat, ((ops.setIfInBounds j (addE i oj))[k]?).map (fun o : Oper => (o.dst, o.op, o.type, o.pos, o.guard)) = (ops[k]?).map (fun o : Oper => (o.dst, o.op, o.type, o.pos, o.guard)) := by
    intro k
    rw [Array.getElem?_setIfInBounds]
    split
    · rename_i h; subst h
      split
      · rw [hj]; rfl
      · rename_i h; rw [Array.getElem?_eq_none (by omega)]
    · rfl
  have hwpop := fun k K a w => wpOp_same (P := P) (Q := Q) hsame k K a w
  have hsub : ∀ (listed : Array Bool) (k : Nat), k ∈ Region.ready .any (ops.setIfInBounds j (addE i oj)) listed → k ∈ Region.ready .any ops listed := by
    intro listed k hk
    rw [mem_ready] at *
    obtain ⟨h0, o, ho, hall⟩ := hk
    refine ⟨h0, ?_⟩
    by_cases hkj : j = k
    · subst hkj
      have hlt : j < ops.size := (Array.getElem?_eq_some_iff.1 hj).1
      rw [Array.getElem?_setIfInBounds, if_pos rfl, if_pos hlt] at ho
      cases ho
      exact ⟨oj, hj, fun e he hb => hall e (by simp [addE, he]) hb⟩
    · rw [Array.getElem?_setIfInBounds_ne hkj] at ho
      exact ⟨o, ho, hall⟩
  have hsup : ∀ (listed : Array Bool) (k : Nat), k ∈ Region.ready .any ops listed → k ≠ j ∨ listed.getD i false = true → k ∈ Region.ready .any (ops.setIfInBounds j (addE i oj)) listed := by
    intro listed k hk hor
    rw [mem_ready] at *
    obtain ⟨h0, o, ho, hall⟩ := hk
    refine ⟨h0, ?_⟩
    by_cases hkj : j = k
    · subst hkj
      have hlt : j < ops.size := (Array.getElem?_eq_some_iff.1 hj).1
      rw [hj] at ho; cases ho
      refine ⟨addE i oj, by rw [Array.getElem?_setIfInBounds, if_pos rfl, if_pos hlt], fun e he hb => ?_⟩
      have he' : e ∈ oj.after ∨ e = ⟨i, .data⟩ := by simpa [addE] using he
      rcases he' with he | rfl
      · exact hall e he hb
      · rcases hor with h | h
        · exact absurd rfl h
        · exact h
    · rw [Array.getElem?_setIfInBounds_ne hkj]
      exact ⟨o, ho, hall⟩
  have hii : ∀ (listed : Array Bool), listed.size = ops.size → j ∈ Region.ready .any ops listed → listed.getD i false ≠ true → i ∈ Region.ready .any ops listed := by
    intro listed hsz hk hn
    rw [mem_ready] at *
    obtain ⟨h0, o, ho, hall⟩ := hk
    rw [hj] at ho; cases ho
    refine ⟨?_, oi, hi, fun e he hb => ?_⟩
    · have hlt : i < ops.size := (Array.getElem?_eq_some_iff.1 hi).1
      have : i < listed.size := by omega
      simp [this] at hn ⊢; exact hn
    · obtain ⟨e', he', hb', hon⟩ := hdeps e he hb
      rw [← hon]; exact hall e' he' hb'
  intro n
  induction n with
  | zero =>
    intro listed a w hsz h
    refine ⟨List.eq_nil_iff_forall_not_mem.2 fun k hk => ?_, h.2⟩
    by_cases hc : k ≠ j ∨ listed.getD i false = true
    · have := hsup listed k hk hc
      rw [h.1] at this; cases this
    · simp only [not_or, ne_eq, Decidable.not_not] at hc
      obtain ⟨rfl, hc2⟩ := hc
      have := hsup listed i (hii listed hsz hk hc2) (.inl hij)
      rw [h.1] at this; cases this
  | succ n ih =>
    intro listed a w hsz h
    by_cases hc : j ∈ Region.ready .any ops listed ∧ listed.getD i false ≠ true
    · have hri := hii listed hsz hc.1 hc.2
      have h1 := h.2 i (hsup listed i hri (.inl hij))
      rw [hwpop] at h1
      rcases extract_cases (P := P) (ops := ops) (Q := Q) hex hg a with ⟨v, hy⟩ | hbad
      · refine wpAny_first hi hsel (hQ v) n listed a w (fun k ok hk hki hun hno => hap k ok hk hki (fun e he hb hon => by
          obtain ⟨_, o', ho', hall'⟩ := mem_ready.1 hri
          rw [hi] at ho'; cases ho'
          have h1 := hall' e he hb
          rw [hon] at h1
          have hlt : k < listed.size := by have := (Array.getElem?_eq_some_iff.1 hk).1; omega
          simp [hlt] at h1 hun
          rw [h1] at hun; cases hun) hno) hri hy ?_
        unfold wpOp at h1
        rw [hi] at h1
        simp only at h1
        rcases hy with ⟨hw, hv⟩ | ⟨hw, _⟩
        · rw [if_pos hw] at h1
          rcases h1 with h1 | ⟨h1, _⟩
          · unfold Oper.wp at h1; rw [hv w] at h1
            exact ih _ _ _ (by simpa using hsz) h1
          · exfalso
            obtain ⟨d, op, ty, ps, af, g⟩ := oi
            simp only at hex; subst hex
            have h2 := h1.1
            cases he : a.eval x with
            | tuple vs =>
              cases hk : vs[k]? with
              | some v' =>
                have e1 : execOp a.eval ⟨d, .extract x k, ty, ps, af, g⟩ = .pure (.value v') := by simp [execOp, Instr.extract, he, hk]; rfl
                rw [e1] at h2
                have h3 : noRoomEvent ∈ (#[] : Array Event) := h2
                simp at h3
              | none =>
                have := hv w
                simp [execOp, Instr.extract, he, hk, stuck, Sem.run] at this
            | _ =>
              have := hv w
              simp [execOp, Instr.extract, he, stuck, Sem.run] at this
        · unfold Region.wanted at hw; rw [hg] at hw; cases hw
      · unfold wpOp at h1
        rw [hi] at h1
        simp only at h1
        have hw : Region.wanted oi (yielded ops a.tmps) = true := by unfold Region.wanted; rw [hg]
        rw [if_pos hw] at h1
        exact absurd h1 (hbad _ _)
    · have hall : ∀ k, k ∈ Region.ready .any ops listed → k ∈ Region.ready .any (ops.setIfInBounds j (addE i oj)) listed := by
        intro k hk
        refine hsup listed k hk ?_
        by_cases hkj : k = j
        · subst hkj
          exact .inr (Decidable.byContradiction fun hn => hc ⟨hk, hn⟩)
        · exact .inl hkj
      refine ⟨fun h0 => h.1 (List.eq_nil_iff_forall_not_mem.2 fun k hk => ?_), fun k hk => ?_⟩
      · have := hsub listed k hk
        rw [h0] at this; cases this
      · have h1 := h.2 k (hall k hk)
        rw [hwpop] at h1
        exact wpOp_mono (fun a' w' h' => ih _ a' w' (by simpa using hsz) h') h1

def isExtract : Op → Bool
  | .extract .. => true
  | _ => false
def notSelect : Op → Bool
  | .select .. => false
  | _ => true
def edgeOk (ops : Array Oper) (i j : Nat) : Bool :=
  let oi := ops.getD i default
  let oj := ops.getD j default
  decide (i < ops.size) && decide (j < ops.size) && decide (i ≠ j) && isExtract oi.op && oi.guard.isNone &&
  (oi.after.toList.all fun e => !Region.binds .any e || oj.after.toList.any fun e' => Region.binds .any e' && e'.on == e.on) &&
  (List.range ops.size).all fun k => notSelect (ops.getD k default).op && (decide (k = i) || (oi.after.toList.any fun e => Region.binds .any e && e.on == k) || ((ops.getD k default).after.toList.any fun e => Region.binds .any e && e.on == i) || oi.apart ops (ops.getD k default))
theorem getD_of {k : Nat} {o : Oper} (h : ops[k]? = some o) : ops.getD k default = o := by simp [h]

theorem wpAny_edge' {i j : Nat} (hok : edgeOk ops i j = true) (hQ : ∀ v c a w, Q (.panic c) (a.put (ops.getD i default).dst v) w → Q (.panic c) a w) (n : Nat) (listed : Array Bool) (a : Act) (w : World) (hsz : listed.size = ops.size)
    (h : wpAny P .any (ops.setIfInBounds j (addE i (ops.getD j default))) Q n listed a w) : wpAny P .any ops Q n listed a w := by
  unfold edgeOk at hok
  simp only [Bool.and_eq_true, decide_eq_true_eq, List.all_eq_true, List.mem_range, Bool.or_eq_true, Bool.not_eq_true', List.any_eq_true, beq_iff_eq, Array.mem_toList_iff] at hok
  obtain ⟨⟨⟨⟨⟨⟨hi, hj⟩, hij⟩, hx⟩, hg⟩, hd⟩, hall⟩ := hok
  have hi' : ops[i]? = some (ops.getD i default) := by simp [hi]
  have hj' : ops[j]? = some (ops.getD j default) := by simp [hj]
  obtain ⟨x, k, hxk⟩ : ∃ x k, (ops.getD i default).op = .extract x k := by
    cases ho : (ops.getD i default).op <;> rw [ho] at hx <;> first | exact ⟨_, _, rfl⟩ | cases hx
  refine wpAny_edge hi' hj' hij hxk (by simpa using hg) ?_ (fun e he hb => ?_) ?_ hQ n listed a w hsz h
  · intro k o cs b hk hs
    have := (hall k (Array.getElem?_eq_some_iff.1 hk).1).1
    rw [getD_of hk, hs] at this
    cases this
  · rcases hd e he with h | ⟨e', h1, h2, h3⟩
    · rw [h] at hb; cases hb
    · exact ⟨e', h1, h2, h3⟩
  · intro k ok hk hki hni hno
    have := (hall k (Array.getElem?_eq_some_iff.1 hk).1).2
    rw [getD_of hk] at this
    rcases this with ((h | ⟨e, h1, h2, h3⟩) | ⟨e, h1, h2, h3⟩) | h
    · exact absurd h hki
    · exact absurd h3 (hni e h1 h2)
    · exact absurd h3 (hno e h1 h2)
    · exact h

theorem wpAny_HX {a : Act} {w : World} (S : World → Prop) (Ψ : Value → World → Prop) (m : Nat) (hok : (regOk ops (m + 1) && decide (m < ops.size) && (ops.getD m default).guard.isNone) = true) (hS : S w)
    (h : HX P ops S Ψ (fun a w => wpList P ops Q (ops.toList.drop (m + 1)) a w) (ops.getD m default) ((List.range m).map fun i => (ops.getD i default, ((Region.before ops).getD m 0).testBit i)) a) : wpAny P .any ops Q ops.size (Array.replicate ops.size false) a w := by
  rw [Bool.and_eq_true, Bool.and_eq_true, decide_eq_true_eq] at hok
  have h1 := wpAny_of_HX (P := P) (Q := Q) (S := S) (Ψ := Ψ) hok.1.1 hok.1.2 (by simpa using hok.2) m (List.range m) (Array.replicate ops.size false) a w (by simp) (by simp) ?_ List.pairwise_lt_range ?_ ?_ hS h
  · rw [show m + (ops.size - m) = ops.size by have := hok.1.2; omega] at h1
    exact h1
  · intro i hi
    rw [Array.getD_eq_getD_getElem?, Array.getElem?_replicate] at hi
    split at hi <;> simp at hi
  · intro i
    have := hok.1.2
    simp only [List.mem_range, Array.getD_eq_getD_getElem?, Array.getElem?_replicate]
    constructor
    · intro hi; exact ⟨hi, by rw [if_pos (by omega)]; rfl⟩
    · exact fun hi => hi.1
  · intro i _ hi
    simp [hi]

theorem zip_eq (l : List Oper) (m : Nat) (hlt : m < l.length) (B : Nat) : ((List.range m).map fun i => (l.toArray.getD i default, B.testBit i)) = (l.take m).zipIdx.map fun y => (y.1, B.testBit y.2) := by
  apply List.ext_getElem?
  intro i
  simp only [List.getElem?_map, List.getElem?_zipIdx, Nat.zero_add]
  by_cases hi : i < m
  · have hil : i < l.length := by omega
    simp [hi, hil]
  · have : (List.take m l)[i]? = none := List.getElem?_eq_none (by simp; omega)
    rw [this]
    simp [Nat.not_lt.1 hi]

/-- As wp_region_X, where operation i (an 'extract') need not come before operation j. -/
theorem wp_region_XE {l l' : List Oper} {id : Nat} {a : Act} {w : World} (i j : Nat) (S : World → Prop) (Ψ : Value → World → Prop) (m : Nat) {x : Oper} (hm : P.follows .mixedOrders = true)
    (he : edgeOk l.toArray i j = true) (hl : edgeL l i j = l') (hQ : ∀ v c a w, Q (.panic c) (a.put (l.toArray.getD i default).dst v) w → Q (.panic c) a w)
    (hok : (regOk l'.toArray (m + 1) && decide (m < l'.toArray.size) && (l'.toArray.getD m default).guard.isNone) = true) (hS : S w.drew)
    (hx : l'[m]? = some x) (h : HX P l'.toArray S Ψ (fun a w => wpList P l'.toArray Q (l'.drop (m + 1)) a w) x ((l'.take m).zipIdx.map fun y => (y.1, ((Region.before l'.toArray).getD m 0).testBit y.2)) a) : (Code.region id l.toArray true).wp P Q a w := by
  refine wp_region_any hm (wpAny_edge' he hQ _ _ _ _ (by simp) ?_)
  have h0 : l.toArray.setIfInBounds j (addE i (l.toArray.getD j default)) = l'.toArray := by
    subst hl
    unfold edgeOk at he
    simp only [Bool.and_eq_true, decide_eq_true_eq] at he
    have hj : j < l.length := by simpa using he.1.1.1.1.1.2
    rw [List.setIfInBounds_toArray]
    congr 1
    apply List.ext_getElem?
    intro k
    unfold edgeL
    rw [List.getElem?_modify, List.getElem?_set]
    by_cases hk : j = k
    · subst hk; simp [hj]
    · simp [hk]
  have hsz : l.toArray.size = l'.toArray.size := by rw [← h0]; simp
  rw [h0, hsz]
  have hlt : m < l'.length := (List.getElem?_eq_some_iff.1 hx).1
  refine wpAny_HX S Ψ m hok hS ?_
  have h1 : l'.toArray.getD m default = x := by simp [hx]
  rw [h1, zip_eq _ _ hlt]
  simpa using h
theorem wp_region_XF {l : List Oper} {id : Nat} {a : Act} {w : World} (i j : Nat) (S : World → Prop) (Ψ : Value → World → Prop) (m : Nat) {x : Oper} (hm : P.follows .mixedOrders = true)
    (he : edgeOk l.toArray i j = true) (hQ : ∀ v c a w, Q (.panic c) (a.put (l.toArray.getD i default).dst v) w → Q (.panic c) a w)
    (hok : (regOk (edgeL l i j).toArray (m + 1) && decide (m < (edgeL l i j).toArray.size) && ((edgeL l i j).toArray.getD m default).guard.isNone) = true) (hS : S w.drew)
    (hx : (edgeL l i j)[m]? = some x) (h : HX P (edgeL l i j).toArray S Ψ (fun a w => wpList P (edgeL l i j).toArray Q ((edgeL l i j).drop (m + 1)) a w) x (((edgeL l i j).take m).zipIdx.map fun y => (y.1, ((Region.before (edgeL l i j).toArray).getD m 0).testBit y.2)) a) : (Code.region id l.toArray true).wp P Q a w :=
  wp_region_XE i j S Ψ m hm he rfl hQ hok hS hx h
/-! #### Some edges -/
def edgesL : List Oper → List (Nat × Nat) → List Oper
  | l, [] => l
  | l, (i, j) :: es => edgesL (edgeL l i j) es
def edgesOk : List Oper → List (Nat × Nat) → Bool
  | _, [] => true
  | l, (i, j) :: es => edgeOk l.toArray i j && edgesOk (edgeL l i j) es
theorem edgeL_set {l : List Oper} {i j : Nat} (he : edgeOk l.toArray i j = true) : l.toArray.setIfInBounds j (addE i (l.toArray.getD j default)) = (edgeL l i j).toArray := by
  unfold edgeOk at he
  simp only [Bool.and_eq_true, decide_eq_true_eq] at he
  have hj : j < l.length := by simpa using he.1.1.1.1.1.2
  rw [List.setIfInBounds_toArray]
  congr 1
  apply List.ext_getElem?
  intro k
  unfold edgeL
  rw [List.getElem?_modify, List.getElem?_set]
  by_cases hk : j = k
  · subst hk; simp [hj]
  · simp [hk]
theorem edgeL_length (l : List Oper) (i j : Nat) : (edgeL l i j).length = l.length := by simp [edgeL]
theorem edgesL_length : ∀ (es : List (Nat × Nat)) (l : List Oper), (edgesL l es).length = l.length
  | [], _ => rfl
  | (i, j) :: es, l => by rw [edgesL, edgesL_length, edgeL_length]
theorem wpAny_edges (hQ : ∀ d v c a w, Q (.panic c) (a.put d v) w → Q (.panic c) a w) : ∀ (es : List (Nat × Nat)) (l : List Oper) (n : Nat) (listed : Array Bool) (a : Act) (w : World), edgesOk l es = true → listed.size = l.length →
    wpAny P .any (edgesL l es).toArray Q n listed a w → wpAny P .any l.toArray Q n listed a w
  | [], _, _, _, _, _, _, _, h => h
  | (i, j) :: es, l, n, listed, a, w, hok, hsz, h => by
    rw [edgesOk, Bool.and_eq_true] at hok
    refine wpAny_edge' hok.1 (fun v c a w => hQ _ v c a w) n listed a w (by simpa using hsz) ?_
    rw [edgeL_set hok.1]
    exact wpAny_edges hQ es _ n listed a w hok.2 (by rw [edgeL_length]; exact hsz) h
theorem wp_region_XG {l : List Oper} {id : Nat} {a : Act} {w : World} (es : List (Nat × Nat)) (S : World → Prop) (Ψ : Value → World → Prop) (m : Nat) {x : Oper} (hm : P.follows .mixedOrders = true)
    (he : edgesOk l es = true) (hQ : ∀ d v c a w, Q (.panic c) (a.put d v) w → Q (.panic c) a w)
    (hok : (regOk (edgesL l es).toArray (m + 1) && decide (m < (edgesL l es).toArray.size) && ((edgesL l es).toArray.getD m default).guard.isNone) = true) (hS : S w.drew)
    (hx : (edgesL l es)[m]? = some x) (h : HX P (edgesL l es).toArray S Ψ (fun a w => wpList P (edgesL l es).toArray Q ((edgesL l es).drop (m + 1)) a w) x (((edgesL l es).take m).zipIdx.map fun y => (y.1, ((Region.before (edgesL l es).toArray).getD m 0).testBit y.2)) a) : (Code.region id l.toArray true).wp P Q a w := by
  refine wp_region_any hm (wpAny_edges hQ es l _ _ _ _ he (by simp) ?_)
  have hsz : l.toArray.size = (edgesL l es).toArray.size := by simp [edgesL_length]
  rw [hsz]
  have hlt : m < (edgesL l es).length := (List.getElem?_eq_some_iff.1 hx).1
  refine wpAny_HX S Ψ m hok hS ?_
  have h1 : (edgesL l es).toArray.getD m default = x := by simp [hx]
  rw [h1, zip_eq _ _ hlt]
  simpa using h
end
end Go.Sx
