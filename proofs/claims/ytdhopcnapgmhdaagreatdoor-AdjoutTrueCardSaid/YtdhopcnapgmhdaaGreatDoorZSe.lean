/-
  Own lemmas for walks over memory: states, blocks, maps, rows (no program in sight but the rules).
-/
import Derived.Test.YtdhopcnapgmhdaaGreatDoorZSd
set_option linter.unusedSimpArgs false
set_option linter.unusedVariables false
set_option linter.unusedSectionVars false
namespace Go.Sx
open Go.RowKit

/-! ### A drawn region with one operation that makes memory anew, wherever it falls -/
section
variable {P : Program} {ops : Array Oper} {Q : Exit → Act → World → Prop} {S : World → Prop} {Ψ : Value → World → Prop}

def ResX (P : Program) (S : World → Prop) (Ψ : Value → World → Prop) (s : Sem Next) (w : World) : Prop :=
  match s.run P w with
  | .ok (.value u) w' => S w' ∧ Ψ u w'
  | .ok .skip w' => S w' ∧ Ψ undef w'
  | .ok (.enter f args) w' => Calls P f args w' fun
      | .returned u, w'' => S w'' ∧ Ψ u w''
      | _, _ => False
  | .ok (.row row args) w' => Rows P row args w' fun u w'' => S w'' ∧ Ψ u w''
  | _ => False

theorem wp_of_resX {o : Oper} {a : Act} {w : World} {K : Act → World → Prop} (h : ResX P S Ψ (execOp a.eval o) w)
    (hk : ∀ v w', S w' → Ψ v w' → K (a.put o.dst v) w') : o.wp P a w K Q := by
  unfold Oper.wp
  unfold ResX at h
  generalize (execOp a.eval o).run P w = r at *
  cases r with
  | ok n w' =>
    cases n <;> simp only [Oper.upon] at h ⊢
    case value u => exact hk _ _ h.1 h.2
    case skip => exact hk _ _ h.1 h.2
    case enter f args =>
      refine Calls.mono h fun e w'' he => ?_
      cases e with
      | returned u => exact hk _ _ he.1 he.2
      | panicked c => exact (he : False).elim
      | outgrown => exact (he : False).elim
    case row row args => exact Rows.mono h fun u w'' he => hk _ _ he.1 he.2
  | halt x w' => exact h.elim

theorem resX_of_wp {o : Oper} {a : Act} {w : World} {d : Tmp} (ho : o.dst = some d) (hd : d < a.tmps.size)
    (h : o.wp P a w (fun a' w' => ∃ v, a' = a.put o.dst v ∧ S w' ∧ Ψ v w') NoQ) : ResX P S Ψ (execOp a.eval o) w := by
  have hd' : ∀ d, o.dst = some d → d < a.tmps.size := fun e he => by rw [ho] at he; cases he; exact hd
  have hinj : ∀ u v, a.put o.dst u = a.put o.dst v → u = v := fun u v h => by
    rcases put_inj hd' h with h | h
    · rw [ho] at h; cases h
    · exact h
  unfold Oper.wp at h
  unfold ResX
  generalize (execOp a.eval o).run P w = r at *
  cases r with
  | ok n w' =>
    cases n <;> simp only [Oper.upon] at h ⊢
    case value u => obtain ⟨v, h1, h2, h3⟩ := h; rw [hinj _ _ h1]; exact ⟨h2, h3⟩
    case skip => obtain ⟨v, h1, h2, h3⟩ := h; rw [hinj _ _ h1]; exact ⟨h2, h3⟩
    case defer x =>
      obtain ⟨v, h1, _⟩ := h
      have h1 := congrArg Act.defers h1
      simp [Act.put, ho] at h1
    case enter f args =>
      refine Calls.mono h fun e w'' he => ?_
      cases e with
      | returned u => obtain ⟨v, h1, h2, h3⟩ := he; rw [hinj _ _ h1]; exact ⟨h2, h3⟩
      | panicked c => exact (he : False).elim
      | outgrown => obtain ⟨_, _, h⟩ := he; exact (h : False).elim
    case row row args => exact Rows.mono h fun u w'' he => by obtain ⟨v, h1, h2, h3⟩ := he; rw [hinj _ _ h1]; exact ⟨h2, h3⟩
  | halt x w' => cases x <;> simp only [Oper.upon] at h <;> exact (h : False).elim

/-- In the order of the text: each with a fixed value; such as need not come ahead of x leave the world; x last. -/
def HX (P : Program) (ops : Array Oper) (S : World → Prop) (Ψ : Value → World → Prop) (fin : Act → World → Prop) (x : Oper) : List (Oper × Bool) → Act → Prop
  | [], a => (∀ w, S w → ResX P S Ψ (execOp a.eval x) w) ∧ ∀ v w, S w → Ψ v w → fin (a.put x.dst v) w
  | (o, b) :: rest, a =>
    if Region.wanted o (yielded ops a.tmps) then
      ∃ v, (∀ w, S w → Res P (fun w' => S w' ∧ (b = false → w' = w)) o.dst v (execOp a.eval o) w) ∧ HX P ops S Ψ fin x rest (a.put o.dst v)
    else HX P ops S Ψ fin x rest (a.put o.dst undef)

theorem HX_pull {fin : Act → World → Prop} {x o : Oper} {b : Bool} {R2 : List (Oper × Bool)} (hso : ∀ cs b, o.op ≠ .select cs b) : ∀ (R1 : List (Oper × Bool)) (a : Act),
    (∀ y ∈ R1, y.1.apart ops o = true ∧ ∀ cs b, y.1.op ≠ .select cs b) → HX P ops S Ψ fin x (R1 ++ (o, b) :: R2) a →
    if Region.wanted o (yielded ops a.tmps) then
      ∃ v, (∀ w, S w → Res P (fun w' => S w' ∧ (b = false → w' = w)) o.dst v (execOp a.eval o) w) ∧ HX P ops S Ψ fin x (R1 ++ R2) (a.put o.dst v)
    else HX P ops S Ψ fin x (R1 ++ R2) (a.put o.dst undef) := by
  intro R1
  induction R1 with
  | nil => intro a _ h; exact h
  | cons y R1 ih =>
    intro a hx h
    obtain ⟨y, by'⟩ := y
    obtain ⟨hap, hsx⟩ := hx (y, by') (by simp)
    obtain ⟨h1, h2, h3⟩ := Oper.apart_spec hap
    simp only [List.cons_append, HX] at h
    have key : ∀ ux : Value, HX P ops S Ψ fin x (R1 ++ (o, b) :: R2) (a.put y.dst ux) →
        (∀ u, HX P ops S Ψ fin x (R1 ++ R2) ((a.put y.dst ux).put o.dst u) → HX P ops S Ψ fin x (((y, by') :: R1) ++ R2) (a.put o.dst u)) →
        if Region.wanted o (yielded ops a.tmps) then
          ∃ v, (∀ w, S w → Res P (fun w' => S w' ∧ (b = false → w' = w)) o.dst v (execOp a.eval o) w) ∧ HX P ops S Ψ fin x (((y, by') :: R1) ++ R2) (a.put o.dst v)
        else HX P ops S Ψ fin x (((y, by') :: R1) ++ R2) (a.put o.dst undef) := by
      intro ux hux hback
      have hi := ih (a.put y.dst ux) (fun y hy => hx y (by simp [hy])) hux
      rw [wanted_put o a y.dst ux h1] at hi
      split
      · rename_i hw
        rw [if_pos hw] at hi
        obtain ⟨v, hr, hrest⟩ := hi
        rw [execOp_put o hso a y.dst ux h1] at hr
        exact ⟨v, hr, hback v hrest⟩
      · rename_i hw
        rw [if_neg hw] at hi
        exact hback undef hi
    by_cases hw : Region.wanted y (yielded ops a.tmps) = true
    · rw [if_pos hw] at h
      obtain ⟨vx, hrx, hrest⟩ := h
      refine key vx hrest fun u hu => ?_
      simp only [List.cons_append, HX]
      rw [wanted_put y a o.dst u h3, if_pos hw, execOp_put y hsx a o.dst u h3]
      exact ⟨vx, hrx, by rw [← Act.put_comm a vx u h2]; exact hu⟩
    · rw [if_neg hw] at h
      refine key undef h fun u hu => ?_
      simp only [List.cons_append, HX]
      rw [wanted_put y a o.dst u h3, if_neg hw, ← Act.put_comm a undef u h2]
      exact hu

/-- x ahead of others, which all leave the world. -/
theorem HX_x {fin : Act → World → Prop} {x : Oper} (hsx : ∀ cs b, x.op ≠ .select cs b) : ∀ (R : List (Oper × Bool)) (a : Act),
    (∀ y ∈ R, y.2 = false ∧ y.1.apart ops x = true ∧ ∀ cs b, y.1.op ≠ .select cs b) → HX P ops S Ψ fin x R a →
    (∀ w, S w → ResX P S Ψ (execOp a.eval x) w) ∧ ∀ v w, S w → Ψ v w → HD P ops (· = w) (fun a => ∀ w', w' = w → fin a w') (R.map (·.1)) (a.put x.dst v) := by
  intro R
  induction R with
  | nil => intro a _ h; exact ⟨h.1, fun v w hS hΨ => fun w' hw => by subst hw; exact h.2 v w' hS hΨ⟩
  | cons y R ih =>
    intro a hy h
    obtain ⟨y, b⟩ := y
    obtain ⟨hb, hap, hsy⟩ := hy (y, b) (by simp)
    obtain ⟨h1, h2, h3⟩ := Oper.apart_spec hap
    simp only at hb; subst hb
    simp only [HX] at h
    by_cases hw : Region.wanted y (yielded ops a.tmps) = true
    · rw [if_pos hw] at h
      obtain ⟨vy, hry, hrest⟩ := h
      obtain ⟨i1, i2⟩ := ih _ (fun z hz => hy z (by simp [hz])) hrest
      rw [execOp_put x hsx a y.dst vy h1] at i1
      refine ⟨i1, fun v w hS hΨ => ?_⟩
      simp only [List.map_cons, HD]
      rw [wanted_put y a x.dst v h3, if_pos hw]
      refine ⟨vy, fun w' hw' => ?_, ?_⟩
      · subst hw'
        rw [execOp_put y hsy a x.dst v h3]
        have := hry w' hS
        refine res_mono this fun w'' h => h.2 trivial
      · rw [← Act.put_comm a vy v h2]; exact i2 v w hS hΨ
    · rw [if_neg hw] at h
      obtain ⟨i1, i2⟩ := ih _ (fun z hz => hy z (by simp [hz])) h
      rw [execOp_put x hsx a y.dst undef h1] at i1
      refine ⟨i1, fun v w hS hΨ => ?_⟩
      simp only [List.map_cons, HD]
      rw [wanted_put y a x.dst v h3, if_neg hw, ← Act.put_comm a undef v h2]
      exact i2 v w hS hΨ
where
  res_mono {S S' : World → Prop} {dst : Option Tmp} {v : Value} {s : Sem Next} {w : World} (h : Res P S dst v s w) (hS : ∀ w, S w → S' w) : Res P S' dst v s w := by
    unfold Res at *
    generalize s.run P w = r at *
    cases r with
    | ok n w' =>
      cases n <;> simp only at h ⊢
      case value u => exact ⟨h.1, hS _ h.2⟩
      case skip => exact ⟨h.1, hS _ h.2⟩
      case enter f args =>
        refine Calls.mono h fun e w'' he => ?_
        cases e with
        | returned u => exact ⟨he.1, hS _ he.2⟩
        | panicked c => exact (he : False).elim
        | outgrown => exact (he : False).elim
      case row row args => exact Rows.mono h fun u w'' he => ⟨he.1, hS _ he.2⟩
    | halt x w' => exact h.elim

theorem wpAny_of_HX {m : Nat} (hok : regOk ops (m + 1) = true) (hm : m < ops.size) (hgx : (ops.getD m default).guard = none) : ∀ (n : Nat) (R : List Nat) (listed : Array Bool) (a : Act) (w : World), R.length = n →
    listed.size = ops.size → DownOk ops listed → R.Pairwise (· < ·) → (∀ i, i ∈ R ↔ i < m ∧ listed.getD i true = false) → (∀ i, m ≤ i → i < ops.size → listed.getD i true = false) → S w →
    HX P ops S Ψ (fun a w => wpList P ops Q (ops.toList.drop (m + 1)) a w) (ops.getD m default) (R.map fun i => (ops.getD i default, ((Region.before ops).getD m 0).testBit i)) a → wpAny P .any ops Q (n + (ops.size - m)) listed a w := by
  intro n
  induction n with
  | zero | succ n ih =>
    intro R listed a w hn hsz hdown hsort hR htail hS h
    obtain ⟨N, hN⟩ : ∃ N, N = R.length := ⟨_, rfl⟩
    have hcount : ∀ q, q = R.length → q + (ops.size - m) = (q + (ops.size - (m + 1))) + 1 := by intro q hq; omega
    rw [hcount _ hn.symm]
    have hmx : ops[m]? = some (ops.getD m default) := by simp [hm]
    have hready : ∃ i, i ∈ Region.ready .any ops listed := by
      cases R with
      | nil =>
        refine ⟨m, mem_ready.2 ⟨htail m (Nat.le_refl _) hm, _, hmx, fun e he hb => ?_⟩⟩
        have hei := (regOk_spec hok hm).1 e he hb
        rw [← getD_listed (by omega)]
        cases hj' : listed.getD e.on true with
        | true => rfl
        | false => exact absurd ((hR e.on).2 ⟨by omega, hj'⟩) (by simp)
      | cons r0 R' =>
        have hr0 := (hR r0).1 (by simp)
        have hr0n : r0 < ops.size := by omega
        refine ⟨r0, mem_ready.2 ⟨hr0.2, ops.getD r0 default, by simp [hr0n], fun e he hb => ?_⟩⟩
        have hei := (regOk_spec hok hr0n).1 e he hb
        rw [← getD_listed (by omega)]
        cases hj' : listed.getD e.on true with
        | true => rfl
        | false =>
          have hin := (hR e.on).2 ⟨by omega, hj'⟩
          rcases List.mem_cons.1 hin with h' | h'
          · omega
          · have := (List.pairwise_cons.1 hsort).1 e.on h'; omega
    refine ⟨fun h0 => (by obtain ⟨i, hi⟩ := hready; rw [h0] at hi; cases hi), fun i hi => ?_⟩
    obtain ⟨h0, o, ho, hall⟩ := mem_ready.1 hi
    have hin : i < ops.size := (Array.getElem?_eq_some_iff.1 ho).1
    have ho' : ops.getD i default = o := by simp [ho]
    have him : i ≤ m := by
      rcases Nat.lt_or_ge m i with h' | h'
      · rcases (regOk_spec hok hin).2.2 m h' with ht | ht
        · have := ready_anc hdown hi ht
          rw [← getD_listed (by omega), htail m (Nat.le_refl _) hm] at this
          cases this
        · omega
      · exact h'
    have hso : ∀ cs b, o.op ≠ .select cs b := ho' ▸ (regOk_spec hok hin).2.1
    have hdown' : DownOk ops (listed.setIfInBounds i true) := by
      intro k hk e he hb
      by_cases hik : i = k
      · subst hik
        exact getD_set_true (hall e (ho' ▸ he) hb)
      · rw [getD_set_ne false hik] at hk
        exact getD_set_true (hdown k hk e he hb)
    unfold wpOp
    rw [ho]
    show if Region.wanted o (yielded ops a.tmps) then o.wp P a w _ Q ∨ _ else _
    by_cases hix : i = m
    · subst hix
      have hx := HX_x (fun cs b => ho' ▸ hso cs b) _ a (fun y hy => by
        obtain ⟨j, hj, rfl⟩ := List.mem_map.1 hy
        have hj' := (hR j).1 hj
        have hjl : listed.getD j false ≠ true := by
          rw [← getD_listed (by omega), hj'.2]; simp
        refine ⟨?_, ?_, (regOk_spec hok (by omega)).2.1⟩
        · cases ht : ((Region.before ops).getD i 0).testBit j with
          | false => rfl
          | true => exact absurd (ready_anc hdown hi ht) hjl
        · rcases (regOk_spec hok hin).2.2 j hj'.1 with ht | ht
          · exact absurd (ready_anc hdown hi ht) hjl
          · exact ht.2) h
      rw [ho'] at hx hgx
      have hw : Region.wanted o (yielded ops a.tmps) = true := by simp [Region.wanted, hgx]
      rw [if_pos hw]
      refine .inl (wp_of_resX (hx.1 w hS) fun v w' hS' hΨ => ?_)
      have hh := hx.2 v w' hS' hΨ
      rw [List.map_map] at hh
      refine wpAny_of_HD (S := (· = w')) hok (by omega) _ R _ _ w' hn (by simpa using hsz) hdown' hsort ?_ ?_ rfl hh
      · intro k
        by_cases hik : i = k
        · subst hik
          constructor
          · intro hk; have := ((hR i).1 hk).1; omega
          · rintro ⟨_, hk⟩; simp [hsz, hin] at hk
        · rw [getD_set_ne true hik, hR k]
          constructor
          · rintro ⟨h1, h2⟩; exact ⟨by omega, h2⟩
          · rintro ⟨h1, h2⟩; exact ⟨by omega, h2⟩
      · intro k hk1 hk2
        rw [getD_set_ne true (by omega)]
        exact htail k (by omega) hk2
    · have hiR : i ∈ R := (hR i).2 ⟨by omega, h0⟩
      first
        | (exfalso; rw [List.length_eq_zero_iff] at hn; subst hn; cases hiR; done)
        | (obtain ⟨R1, R2, hsplit⟩ := List.append_of_mem hiR
           subst hsplit
           rw [List.map_append, List.map_cons, ho'] at h
           have hlt1 : ∀ x ∈ R1, x < i := fun x hx => (List.pairwise_append.1 hsort).2.2 x hx i (by simp)
           have hlt2 : ∀ x ∈ R2, i < x := fun x hx => (List.pairwise_cons.1 (List.pairwise_append.1 hsort).2.1).1 x hx
           have hp := HX_pull hso (R1.map fun i => (ops.getD i default, ((Region.before ops).getD m 0).testBit i)) a (fun y hy => by
             obtain ⟨x, hx, rfl⟩ := List.mem_map.1 hy
             have hxi := hlt1 x hx
             refine ⟨?_, (regOk_spec hok (by omega)).2.1⟩
             rcases (regOk_spec hok hin).2.2 x hxi with ht | ht
             · have := ready_anc hdown hi ht
               have hxu := ((hR x).1 (by simp [hx])).2
               rw [← getD_listed (by omega), hxu] at this
               cases this
             · rw [← ho']; exact ht.2) h
           have hnext : ∀ u w', S w' → HX P ops S Ψ (fun a w => wpList P ops Q (ops.toList.drop (m + 1)) a w) (ops.getD m default) ((R1.map fun i => (ops.getD i default, ((Region.before ops).getD m 0).testBit i)) ++ R2.map fun i => (ops.getD i default, ((Region.before ops).getD m 0).testBit i)) (a.put o.dst u) →
               wpAny P .any ops Q (n + 1 + (ops.size - (m + 1))) (listed.setIfInBounds i true) (a.put o.dst u) w' := by
             intro u w' hS' hh
             rw [show n + 1 + (ops.size - (m + 1)) = n + (ops.size - m) by omega]
             refine ih (R1 ++ R2) _ _ w' (by simp at hn ⊢; omega) (by simpa using hsz) hdown' ?_ ?_ ?_ hS' (by rw [List.map_append]; exact hh)
             · have h1 := List.pairwise_append.1 hsort
               refine List.pairwise_append.2 ⟨h1.1, (List.pairwise_cons.1 h1.2.1).2, fun x hx y hy => h1.2.2 x hx y (by simp [hy])⟩
             · intro k
               by_cases hik : i = k
               · subst hik
                 constructor
                 · intro hk
                   rcases List.mem_append.1 hk with hk | hk
                   · have := hlt1 i hk; omega
                   · have := hlt2 i hk; omega
                 · rintro ⟨_, hk⟩
                   simp [hsz, hin] at hk
               · rw [getD_set_ne true hik, ← hR k]
                 simp [Ne.symm hik]
             · intro k hmk hk
               rw [getD_set_ne true (by omega)]
               exact htail k hmk hk
           by_cases hw : Region.wanted o (yielded ops a.tmps) = true
           · rw [if_pos hw] at hp ⊢
             obtain ⟨v, hr, hrest⟩ := hp
             exact .inl (wp_of_res (hr w hS) fun w' hS' => hnext v w' hS'.1 hrest)
           · rw [if_neg hw] at hp ⊢
             exact hnext undef w hS hp)

/-- A statement that draws its order: m operations, then x, which makes memory anew and which some of the m need not wait for, then the others, which wait for all before them. -/
theorem wp_region_HX {id : Nat} {a : Act} {w : World} (S : World → Prop) (Ψ : Value → World → Prop) (m : Nat) (hm : P.follows .mixedOrders = true) (hok : (regOk ops (m + 1) && decide (m < ops.size) && (ops.getD m default).guard.isNone) = true) (hS : S w.drew)
    (h : HX P ops S Ψ (fun a w => wpList P ops Q (ops.toList.drop (m + 1)) a w) (ops.getD m default) ((List.range m).map fun i => (ops.getD i default, ((Region.before ops).getD m 0).testBit i)) a) : (Code.region id ops true).wp P Q a w := by
  rw [Bool.and_eq_true, Bool.and_eq_true, decide_eq_true_eq] at hok
  refine wp_region_any hm ?_
  have h1 := wpAny_of_HX (P := P) (Q := Q) (S := S) (Ψ := Ψ) hok.1.1 hok.1.2 (by simpa using hok.2) m (List.range m) (Array.replicate ops.size false) a w.drew (by simp) (by simp) ?_ List.pairwise_lt_range ?_ ?_ hS h
  · rw [show m + (ops.size - m) = ops.size by have := hok.1.2; omega] at h1
    exact h1
  · intro i hi
    rw [Array.getD_eq_getD_getElem?, Array.getElem?_replicate] at hi
    split at hi <;> simp at hi
  · intro i
    have := hok.1.2
    simp only [List.mem_range, Array.getD_eq_getD_getElem?, Array.getElem?_replicate]
    constructor
    · intro hi; exact ⟨hi, by rw [if_pos (by omega)]; rfl⟩
    · exact fun hi => hi.1
  · intro i _ hi
    simp [hi]

theorem wp_region_X {l : List Oper} {id : Nat} {a : Act} {w : World} (S : World → Prop) (Ψ : Value → World → Prop) (m : Nat) {x : Oper} (hm : P.follows .mixedOrders = true) (hok : (regOk l.toArray (m + 1) && decide (m < l.toArray.size) && (l.toArray.getD m default).guard.isNone) = true) (hS : S w.drew)
    (hx : l[m]? = some x) (h : HX P l.toArray S Ψ (fun a w => wpList P l.toArray Q (l.drop (m + 1)) a w) x ((l.take m).zipIdx.map fun y => (y.1, ((Region.before l.toArray).getD m 0).testBit y.2)) a) : (Code.region id l.toArray true).wp P Q a w := by
  refine wp_region_HX S Ψ m hm hok hS ?_
  have h1 : l.toArray.getD m default = x := by simp [hx]
  have hlt : m < l.length := (List.getElem?_eq_some_iff.1 hx).1
  have h2 : ((List.range m).map fun i => (l.toArray.getD i default, ((Region.before l.toArray).getD m 0).testBit i)) = (l.take m).zipIdx.map fun y => (y.1, ((Region.before l.toArray).getD m 0).testBit y.2) := by
    apply List.ext_getElem?
    intro i
    simp only [List.getElem?_map, List.getElem?_zipIdx, Nat.zero_add]
    by_cases hi : i < m
    · have hil : i < l.length := by omega
      simp [hi, hil]
    · have : (List.take m l)[i]? = none := List.getElem?_eq_none (by simp; omega)
      rw [this]
      simp [Nat.not_lt.1 hi]
  rw [h1, h2]
  simpa using h

section
variable {fin : Act → World → Prop} {x o : Oper} {b : Bool} {rest : List (Oper × Bool)} {a : Act}
theorem HX_pure {v : Value} (hg : Region.wanted o (yielded ops a.tmps) = true) (hd : dstIn o a.tmps.size = true) (h : ∀ w, S w → ∀ K : Act → World → Prop, K (a.put o.dst v) w → o.wp P a w K NoQ)
    (hr : HX P ops S Ψ fin x rest (a.put o.dst v)) : HX P ops S Ψ fin x ((o, b) :: rest) a := by
  rw [HX, if_pos hg]
  refine ⟨v, fun w hS => ?_, hr⟩
  have := res_of_wp (S := fun w' => S w' ∧ (b = false → w' = w)) (fun d hd' => by simpa [dstIn, hd'] using hd) (h w hS _ ⟨rfl, hS, fun _ => rfl⟩)
  exact this
theorem HX_op {v : Value} (hb : b = true) (hg : Region.wanted o (yielded ops a.tmps) = true) (hd : dstIn o a.tmps.size = true) (h : ∀ w, S w → ∀ K : Act → World → Prop, (∀ w', S w' → K (a.put o.dst v) w') → o.wp P a w K NoQ)
    (hr : HX P ops S Ψ fin x rest (a.put o.dst v)) : HX P ops S Ψ fin x ((o, b) :: rest) a := by
  rw [HX, if_pos hg]
  refine ⟨v, fun w hS => ?_, hr⟩
  have := res_of_wp (S := fun w' => S w' ∧ (b = false → w' = w)) (fun d hd' => by simpa [dstIn, hd'] using hd) (h w hS _ fun w' hS' => ⟨rfl, hS', fun h => by rw [hb] at h; cases h⟩)
  exact this
theorem HX_skip (hg : Region.wanted o (yielded ops a.tmps) = false) (hr : HX P ops S Ψ fin x rest (a.put o.dst undef)) : HX P ops S Ψ fin x ((o, b) :: rest) a := by
  rw [HX, if_neg (by simp [hg])]; exact hr
theorem HX_by {c b' : Bool} {j : Nat} (hg : o.guard = some (j, b')) (hy : yielded ops a.tmps j = some c) (ht : c = b' → HX P ops S Ψ fin x ((o, b) :: rest) a) (hf : c = (!b') → HX P ops S Ψ fin x ((o, b) :: rest) a) : HX P ops S Ψ fin x ((o, b) :: rest) a := by
  cases c <;> cases b' <;> first | exact ht rfl | exact hf rfl
theorem HX_last {d : Tmp} (ho : x.dst = some d) (hd : d < a.tmps.size) (h : ∀ w, S w → ∀ K : Act → World → Prop, (∀ v w', S w' → Ψ v w' → K (a.put x.dst v) w') → x.wp P a w K NoQ)
    (hr : ∀ v w, S w → Ψ v w → fin (a.put x.dst v) w) : HX P ops S Ψ fin x [] a :=
  ⟨fun w hS => resX_of_wp ho hd (h w hS _ fun v w' hS' hΨ => ⟨v, rfl, hS', hΨ⟩), hr⟩
end
end

/-! ### What a callee hands back -/
section
variable {F0 : Nat → Prop} {w0 w w' : World} {L L1 L2 : List It} {x : It}
theorem St.callx (S : St F0 w0 w L) (ho : Out L x L1) (S2 : St (· ∈ x.fp) w w' L2) : St F0 w0 w' (L2 ++ L1) := by
  have Sp : St F0 w0 w (x :: L1) := S.perm ho.perm
  have hsep := Sp.sep
  rw [List.flatMap_cons, List.nodup_append] at hsep
  have hkeep : ∀ y ∈ L1, ∀ b ∈ y.fp, w'.heap[b]? = w.heap[b]? := fun y hy b hb =>
    S2.mod.block b (Sp.lt y (by simp [hy]) b hb) fun h => hsep.2.2 b h b (List.mem_flatMap.2 ⟨y, hy, hb⟩) rfl
  refine ⟨?_, ?_, ?_, ?_, ?_⟩
  · exact S.mod.trans' S2.mod fun i hi hx => Sp.own x (by simp) i hx hi
  · rw [List.flatMap_append, List.nodup_append]
    refine ⟨S2.sep, hsep.2.1, fun a ha b hb hab => ?_⟩
    subst hab
    obtain ⟨y, hy, hay⟩ := List.mem_flatMap.1 ha
    obtain ⟨z, hz, haz⟩ := List.mem_flatMap.1 hb
    have hlt := Sp.lt z (by simp [hz]) a haz
    exact hsep.2.2 a (S2.own y hy a hay hlt) a hb rfl
  · intro y hy
    rcases List.mem_append.1 hy with hy | hy
    · exact S2.ok y hy
    · exact y.loc w w' (hkeep y hy) (Sp.ok y (by simp [hy]))
  · intro y hy b hb
    rcases List.mem_append.1 hy with hy | hy
    · exact S2.lt y hy b hb
    · exact Nat.lt_of_lt_of_le (Sp.lt y (by simp [hy]) b hb) S2.mod.size
  · intro y hy b hb hlt
    rcases List.mem_append.1 hy with hy | hy
    · have hlt' : b < w.heap.size := Nat.lt_of_lt_of_le hlt S.size
      exact Sp.own x (by simp) b (S2.own y hy b hb hlt') hlt
    · exact Sp.own y (by simp [hy]) b hb hlt
theorem St.call (S : St F0 w0 w L) (S2 : St Nil w w' L2) : St F0 w0 w' (L2 ++ L) := by
  have Sx : St F0 w0 w (⟨[], fun _ => True, fun _ _ _ h => h⟩ :: L) := ⟨S.mod, by simpa using S.sep, fun x hx => by
    rcases List.mem_cons.1 hx with rfl | hx
    · trivial
    · exact S.ok x hx, fun x hx b hb => by
    rcases List.mem_cons.1 hx with rfl | hx
    · cases hb
    · exact S.lt x hx b hb, fun x hx b hb h => by
    rcases List.mem_cons.1 hx with rfl | hx
    · cases hb
    · exact S.own x hx b hb h⟩
  exact Sx.callx .head ⟨S2.mod.mono fun _ _ h => h.elim, S2.sep, S2.ok, S2.lt, fun x hx b hb h => (S2.own x hx b hb h).elim⟩
/-- A walk that begins with an old block in its hands. -/
theorem St.one {x : It} (hx : x.P w) (hn : x.fp.Nodup) (hlt : ∀ b ∈ x.fp, b < w.heap.size) : St (· ∈ x.fp) w w [x] :=
  ⟨Mod.refl _ _, by simpa using hn, fun y hy => by simp at hy; subst hy; exact hx, fun y hy b hb => by simp at hy; subst hy; exact hlt b hb, fun y hy b hb _ => by simp at hy; subst hy; exact hb⟩
end
end Go.Sx
