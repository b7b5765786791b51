/-
  Own lemmas for walks over memory: states, blocks, maps, rows (no program in sight but the rules).
-/
import Derived.Test.YtdhopcnapgmhdaaGreatDoorZSy
set_option linter.unusedSimpArgs false
set_option linter.unusedVariables false
set_option linter.unusedSectionVars false
namespace Go.Sx
open Go.RowKit

/-! ### 6. Equality of plain structs -/
abbrev Kd := IntKind ⊕ Bool
def kdOf : Value → Option Kd
  | .int k _ => some (.inl k)
  | .string _ => some (.inr false)
  | .bool _ => some (.inr true)
  | _ => none
def eqVal : Value → Value → Bool
  | .int _ a, .int _ b => a == b
  | .string a, .string b => a.toList == b.toList
  | .bool a, .bool b => a == b
  | _, _ => false
def eqCells : List Value → List Value → Bool
  | x :: xs, y :: ys => eqVal x y && eqCells xs ys
  | _, _ => true

mutual
def kindsOf (P : Program) : Nat → TypeId → Option (List Kd)
  | 0, _ => none
  | n + 1, t =>
    match P.underlying t with
    | some (.int k) => some [.inl k]
    | some .string => some [.inr false]
    | some .bool => some [.inr true]
    | some (.struct fs) =>
      if P.stoodInHeld t then none else
      match kindsOfs P n 0 fs.toList with
      | some ks => if (P.info? t).map (·.size) = some ks.length then some ks else none
      | none => none
    | _ => none
def kindsOfs (P : Program) : Nat → Nat → List Field → Option (List Kd)
  | 0, _, _ => none
  | _ + 1, _, [] => some []
  | n + 1, off, f :: fs =>
    if f.name = "_" ∨ f.offset ≠ off then none else
    match kindsOf P n f.type with
    | some ks => (kindsOfs P n (off + ks.length) fs).map (ks ++ ·)
    | none => none
end

section
variable {P : Program}
theorem eqCells_append : ∀ (a b c e : List Value), a.length = c.length → eqCells (a ++ b) (c ++ e) = (eqCells a c && eqCells b e)
  | [], _, [], _, _ => by simp [eqCells]
  | x :: a, b, y :: c, e, h => by
    simp only [List.cons_append, eqCells, eqCells_append a b c e (by simpa using h), Bool.and_assoc]

/-- A value of a plain type, of its cells. -/
def pv (P : Program) (t : TypeId) (xs : List Value) : Value :=
  match P.underlying t with
  | some (.struct _) => .agg xs.toArray
  | _ => xs.headD undef

theorem kd_int {v : Value} {k : IntKind} (h : kdOf v = some (.inl k)) : ∃ n, v = .int k n := by
  cases v <;> simp [kdOf] at h
  subst h; exact ⟨_, rfl⟩
theorem kd_string {v : Value} (h : kdOf v = some (.inr false)) : ∃ n, v = .string n := by
  cases v <;> simp [kdOf] at h
  exact ⟨_, rfl⟩
theorem kd_bool {v : Value} (h : kdOf v = some (.inr true)) : ∃ n, v = .bool n := by
  cases v <;> simp [kdOf] at h
  exact ⟨_, rfl⟩

theorem kd_one {xs : List Value} {k : Kd} (h : xs.map kdOf = [k].map some) : ∃ x, xs = [x] ∧ kdOf x = some k := by
  cases xs with
  | nil => simp at h
  | cons x xs =>
    cases xs with
    | nil => exact ⟨x, rfl, by simpa using h⟩
    | cons y ys => simp at h
theorem kindsOf_size {n : Nat} {t : TypeId} {fs : Array Field} {ks : List Kd} (h : kindsOf P n t = some ks) (hu : P.underlying t = some (.struct fs)) : tsh P t = some (some ks.length) := by
  cases n with
  | zero => simp [kindsOf] at h
  | succ n =>
    simp only [kindsOf, hu] at h
    split at h
    · cases h
    · split at h
      · split at h
        · rename_i hs
          cases h
          obtain ⟨i, hi, hz⟩ := Option.map_eq_some_iff.1 hs
          simp [tsh, hu, hi, hz]
        · cases h
      · cases h

theorem run_part {n : Nat} {t : TypeId} {ks : List Kd} {w : World} (h : kindsOf P n t = some ks) {big : List Value} {off : Nat} (hb : ((big.drop off).take ks.length).map kdOf = ks.map some) :
    (part t big.toArray off).run P w = .ok (pv P t ((big.drop off).take ks.length)) w := by
  have hlen : ((big.drop off).take ks.length).length = ks.length := by simpa using congrArg List.length hb
  by_cases hs : ∃ fs, P.underlying t = some (.struct fs)
  · obtain ⟨fs, hu⟩ := hs
    have h1 := kindsOf_size h hu
    simp only [part, Sem.run_bind, (tsh_many (w := w) h1).1, (tsh_many (w := w) h1).2, Result.andThen_ok, if_true, pv, hu]
    simp
  · have hone : ∃ k, ks = [k] := by
      cases n with
      | zero => simp [kindsOf] at h
      | succ n =>
        cases hu : P.underlying t with
        | none => simp [kindsOf, hu] at h
        | some u =>
          cases u <;> simp [kindsOf, hu] at h
          case struct fs => exact absurd ⟨fs, hu⟩ hs
          all_goals exact ⟨_, h.symm⟩
    obtain ⟨k, rfl⟩ := hone
    have htsh : tsh P t = some none := by
      cases n with
      | zero => simp [kindsOf] at h
      | succ n =>
        cases hu : P.underlying t with
        | none => simp [kindsOf, hu] at h
        | some u =>
          cases u <;> simp [kindsOf, hu] at h
          case struct fs => exact absurd ⟨fs, hu⟩ hs
          all_goals simp [tsh, hu]
    obtain ⟨v, hv⟩ : ∃ v, (big.drop off).take 1 = [v] := by
      match hb' : (big.drop off).take 1, hlen with
      | [v], _ => exact ⟨v, rfl⟩
    have hoff : big[off]? = some v := by
      have := congrArg (·[0]?) hv
      simpa using this
    simp only [List.length_singleton, part, Sem.run_bind, tsh_one (w := w) htsh, Result.andThen_ok]
    rw [hv]
    have hpv : pv P t [v] = v := by
      unfold pv
      split
      · rename_i fs hu; exact absurd ⟨fs, hu⟩ hs
      · rfl
    rw [hpv]
    simp [hoff]

theorem run_equal_plain (n : Nat) : (∀ (t : TypeId) (ks : List Kd) (xs ys : List Value) (d : Nat) (w : World), kindsOf P n t = some ks → n ≤ d → xs.map kdOf = ks.map some → ys.map kdOf = ks.map some →
      (Op.equalIn d t (pv P t xs) (pv P t ys)).run P w = .ok (eqCells xs ys) w) ∧
    (∀ (off : Nat) (fs : List Field) (ks : List Kd) (xs ys : List Value) (d : Nat) (w : World), kindsOfs P n off fs = some ks → n ≤ d + 1 → (xs.drop off).map kdOf = ks.map some → (ys.drop off).map kdOf = ks.map some →
      (Op.eqFields d xs.toArray ys.toArray fs).run P w = .ok (eqCells (xs.drop off) (ys.drop off)) w) := by
  induction n with
  | zero => exact ⟨fun _ _ _ _ _ _ h => by simp [kindsOf] at h, fun _ _ _ _ _ _ _ h => by simp [kindsOfs] at h⟩
  | succ n ih =>
    constructor
    · intro t ks xs ys d w h hd hx hy
      obtain ⟨d, rfl⟩ : ∃ e, d = e + 1 := ⟨d - 1, by omega⟩
      simp only [kindsOf] at h
      split at h
      · rename_i k hu
        cases h
        obtain ⟨x, rfl, kx⟩ := kd_one hx
        obtain ⟨y, rfl, ky⟩ := kd_one hy
        obtain ⟨a, rfl⟩ := kd_int kx
        obtain ⟨b, rfl⟩ := kd_int ky
        simp [pv, hu, Op.equalIn, run_underlying hu, eqCells, eqVal]
      · rename_i hu
        cases h
        obtain ⟨x, rfl, kx⟩ := kd_one hx
        obtain ⟨y, rfl, ky⟩ := kd_one hy
        obtain ⟨a, rfl⟩ := kd_string kx
        obtain ⟨b, rfl⟩ := kd_string ky
        simp [pv, hu, Op.equalIn, run_underlying hu, eqCells, eqVal, beq_toListBytes]
      · rename_i hu
        cases h
        obtain ⟨x, rfl, kx⟩ := kd_one hx
        obtain ⟨y, rfl, ky⟩ := kd_one hy
        obtain ⟨a, rfl⟩ := kd_bool kx
        obtain ⟨b, rfl⟩ := kd_bool ky
        simp [pv, hu, Op.equalIn, run_underlying hu, eqCells, eqVal]
      · rename_i fs hu
        split at h
        · cases h
        · rename_i hst
          split at h
          · rename_i ks' hks
            split at h
            · cases h
              have hf : P.fieldsOf t = fs := by simp [Program.fieldsOf, hu]
              simp only [pv, hu]
              rw [run_equalIn_struct w d t xs.toArray ys.toArray (by rw [hf]; exact hu) (by simpa using hst), hf]
              exact ih.2 0 fs.toList ks xs ys d w hks (by omega) (by simpa using hx) (by simpa using hy)
            · cases h
          · cases h
      · cases h
    · intro off fs ks xs ys d w h hd hx hy
      cases fs with
      | nil =>
        simp only [kindsOfs, Option.some.injEq] at h
        subst h
        have hx0 : xs.drop off = [] := by simpa using hx
        have hy0 : ys.drop off = [] := by simpa using hy
        simp [Op.eqFields, hx0, hy0, eqCells]
      | cons f fs =>
        simp only [kindsOfs] at h
        split at h
        · cases h
        · rename_i hnm
          have hnm : f.name ≠ "_" ∧ f.offset = off := by
            constructor
            · intro e; exact hnm (.inl e)
            · rcases Nat.decEq f.offset off with e | e
              · exact absurd (.inr e) hnm
              · exact e
          split at h
          · rename_i k1 hk1
            obtain ⟨k2, hk2, rfl⟩ := Option.map_eq_some_iff.1 h
            have hx1 : ((xs.drop off).take k1.length).map kdOf = k1.map some := by
              rw [List.map_take, hx, List.map_append, List.take_left' (by simp)]
            have hy1 : ((ys.drop off).take k1.length).map kdOf = k1.map some := by
              rw [List.map_take, hy, List.map_append, List.take_left' (by simp)]
            have hx2 : (xs.drop (off + k1.length)).map kdOf = k2.map some := by
              rw [← List.drop_drop, List.map_drop, hx, List.map_append, List.drop_left' (by simp)]
            have hy2 : (ys.drop (off + k1.length)).map kdOf = k2.map some := by
              rw [← List.drop_drop, List.map_drop, hy, List.map_append, List.drop_left' (by simp)]
            have e1 := ih.1 f.type k1 _ _ d w hk1 (by omega) hx1 hy1
            have e2 := ih.2 (off + k1.length) fs k2 xs ys d w hk2 (by omega) hx2 hy2
            have hsp : eqCells (xs.drop off) (ys.drop off) = (eqCells ((xs.drop off).take k1.length) ((ys.drop off).take k1.length) && eqCells (xs.drop (off + k1.length)) (ys.drop (off + k1.length))) := by
              have hl1 := congrArg List.length hx1
              have hl2 := congrArg List.length hy1
              rw [List.length_map, List.length_map] at hl1 hl2
              rw [← List.drop_drop, ← List.drop_drop, ← eqCells_append _ _ _ _ (by rw [hl1, hl2]), List.take_append_drop, List.take_append_drop]
            simp only [Op.eqFields, if_pos hnm.1, Sem.run_bind, hnm.2, run_part (w := w) hk1 hx1, run_part (w := w) hk1 hy1, Result.andThen_ok, e1]
            rw [hsp]
            cases eqCells ((xs.drop off).take k1.length) ((ys.drop off).take k1.length) with
            | true => simpa using e2
            | false => simp
          · cases h

/-- A type whose values are told apart by their cells alone. -/
class TK (P : Program) (t : TypeId) (ks : outParam (List Kd)) : Prop where
  eq : kindsOf P 20 t = some ks
  guard : P.eqGuardType P.depth t = false
  agg : (match P.underlying t with | some (.struct _) => true | _ => false) = true

variable {Q : Exit → Act → World → Prop} {K : Act → World → Prop} {w : World} {a : Act}
  {d : Option Tmp} {T ty T2 : TypeId} {x y : Operand} {pos : String} {af : Array Edge} {g : Option (Nat × Bool)}

theorem run_eq_plain {ks : List Kd} [h : TK P T ks] {xs ys : List Value} (hx : xs.map kdOf = ks.map some) (hy : ys.map kdOf = ks.map some) : (Op.equal T (.agg xs.toArray) (.agg ys.toArray)).run P w = .ok (eqCells xs ys) w := by
  have := (run_equal_plain (P := P) 20).1 T ks xs ys 10000 w h.eq (by decide) hx hy
  have hp : ∀ zs, pv P T zs = .agg zs.toArray := fun zs => by
    have := h.agg
    unfold pv
    split at this
    · rfl
    · cases this
  rw [hp, hp] at this
  exact this

theorem wp_eqAgg {ks : List Kd} [h : TK P T ks] {xs ys : List Value} (hx : a.eval x = .agg xs.toArray) (hy : a.eval y = .agg ys.toArray) (kx : xs.map kdOf = ks.map some) (ky : ys.map kdOf = ks.map some)
    (hk : K (a.put d (.bool (eqCells xs ys))) w) : Oper.wp P ⟨d, .binOp .eql T x y T2, ty, pos, af, g⟩ a w K Q := by
  refine wp_val (v := .bool (eqCells xs ys)) (w' := w) ?_ hk
  simp only [execOp, hx, hy, Sem.run_bind, run_eqGuard_agg w .eql T x y xs.toArray ys.toArray h.guard, Result.andThen_ok, binOp, run_eq_plain kx ky, Sem.run_pure]
theorem wp_neAgg {ks : List Kd} [h : TK P T ks] {xs ys : List Value} (hx : a.eval x = .agg xs.toArray) (hy : a.eval y = .agg ys.toArray) (kx : xs.map kdOf = ks.map some) (ky : ys.map kdOf = ks.map some)
    (hk : K (a.put d (.bool (!eqCells xs ys))) w) : Oper.wp P ⟨d, .binOp .neq T x y T2, ty, pos, af, g⟩ a w K Q := by
  refine wp_val (v := .bool (!eqCells xs ys)) (w' := w) ?_ hk
  simp only [execOp, hx, hy, Sem.run_bind, run_eqGuard_agg w .neq T x y xs.toArray ys.toArray h.guard, Result.andThen_ok, binOp, run_eq_plain kx ky, Sem.run_pure]
end
end Go.Sx
