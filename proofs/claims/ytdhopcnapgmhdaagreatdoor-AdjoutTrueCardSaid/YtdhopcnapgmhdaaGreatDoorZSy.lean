/-
  Own lemmas for walks over memory: states, blocks, maps, rows (no program in sight but the rules).
-/
import Derived.Test.YtdhopcnapgmhdaaGreatDoorZSx
set_option linter.unusedSimpArgs false
set_option linter.unusedVariables false
set_option linter.unusedSectionVars false
namespace Go.Sx
open Go.RowKit

/-! ### 4. Operations on memory -/
section
variable {P : Program} {Q : Exit → Act → World → Prop} {K : Act → World → Prop} {F : Nat → Prop} {w0 w : World} {L L' : List It} {a : Act}
  {d : Option Tmp} {T ty : TypeId} {x y : Operand} {pos : String} {af : Array Edge} {g : Option (Nat × Bool)}

theorem wp_val {o : Oper} {v : Value} {w' : World} (h : (execOp a.eval o).run P w = .ok (.value v) w') (hk : K (a.put o.dst v) w') : o.wp P a w K Q := by
  unfold Oper.wp; rw [h]; exact hk
theorem wp_unit {o : Oper} {w' : World} (h : (execOp a.eval o).run P w = .ok .skip w') (hk : K (a.put o.dst undef) w') : o.wp P a w K Q := by
  unfold Oper.wp; rw [h]; exact hk

/-- A row of cells in a block of its own. -/
def cb (b : Nat) (cs : List Value) (T : TypeId) (f : Nat × Nat := (0, 0)) : It := blk b (.cells cs.toArray T f)
theorem St.cb (S : St F w0 w L) {b : Nat} {cs : List Value} {T : TypeId} {f : Nat × Nat} (h : Has L (cb b cs T f)) : w.heap[b]? = some (.cells cs.toArray T f) := S.get h
theorem cell_of {w : World} {b : Nat} {cs : List Value} {T : TypeId} {f : Nat × Nat} (h : w.heap[b]? = some (.cells cs.toArray T f)) {off : Nat} {v : Value} (hc : cs[off]? = some v) : w.cell? ⟨b, off, none⟩ = some v := by
  simp [World.cell?, h, hc]
theorem frozen_of {w : World} {b : Nat} {cs : List Value} {T : TypeId} {f : Nat × Nat} (h : w.heap[b]? = some (.cells cs.toArray T f)) {off : Nat} (hf : f.2 ≤ f.1 ∨ cs.length ≤ f.1) (hlt : off < cs.length) : w.frozen? ⟨b, off, none⟩ = false := by
  simp [World.frozen?, h]; omega

theorem wp_box (S : St F w0 w L) {v : Value} {cs : List Value} (hx : a.eval x = v) (hc : v.cells = cs.toArray)
    (hk : ∀ b w1, St F w0 w1 (Sx.cb b cs T :: L) → K (a.put d (.pointer (some ⟨b, 0, none⟩))) w1) : Oper.wp P ⟨d, .box T x, ty, pos, af, g⟩ a w K Q := by
  refine wp_val (v := .pointer (some ⟨w.heap.size, 0, none⟩)) (w' := w.alloc (.cells cs.toArray T)) ?_ (hk _ _ (S.alloc _))
  simp [execOp, Instr.box, newVar, newRow, newObj, hx, hc, Sem.run]

/-- A type's shape: one cell (none), or so many. -/
def tsh (P : Program) (t : TypeId) : Option (Option Nat) :=
  match P.underlying t with
  | some (.struct _) | some (.array _ _) => (P.info? t).map fun i => some i.size
  | some _ => some none
  | none => none

class TSh (P : Program) (t : TypeId) (r : outParam (Option Nat)) : Prop where
  eq : tsh P t = some r
/-- How many cells. -/
class TSz (P : Program) (t : TypeId) (n : outParam Nat) : Prop where
  eq : (P.info? t).map (·.size) = some n
/-- The zero value. -/
class TZ (P : Program) (t : TypeId) (v : outParam Value) : Prop where
  eq : (P.info? t).bind (·.zero) = some v

theorem wp_alloc (S : St F w0 w L) {z : Value} [hz : TZ P T z] {cs : List Value} (hc : z.cells = cs.toArray)
    (hk : ∀ b w1, St F w0 w1 (Sx.cb b cs T :: L) → K (a.put d (.pointer (some ⟨b, 0, none⟩))) w1) : Oper.wp P ⟨d, .alloc T, ty, pos, af, g⟩ a w K Q := by
  refine wp_val (v := .pointer (some ⟨w.heap.size, 0, none⟩)) (w' := w.alloc (.cells cs.toArray T)) ?_ (hk _ _ (S.alloc _))
  obtain ⟨i, hi, hz⟩ := Option.bind_eq_some_iff.1 hz.eq
  simp [execOp, Instr.alloc, newVar, newRow, newObj, zeroValue, typeInfo, hi, hz, hc, Sem.run]

theorem tsh_one {t : TypeId} {w : World} (h : tsh P t = some none) : (isAgg t).run P w = .ok false w := by
  unfold tsh at h
  cases hu : P.underlying t with
  | none => simp [hu] at h
  | some u => cases u <;> simp_all [isAgg, run_underlying hu]
theorem tsh_many {t : TypeId} {n : Nat} {w : World} (h : tsh P t = some (some n)) : (isAgg t).run P w = .ok true w ∧ (sizeOf t).run P w = .ok n w := by
  unfold tsh at h
  cases hu : P.underlying t with
  | none => simp [hu] at h
  | some u =>
    cases u <;> simp [hu] at h <;> (obtain ⟨i, hi, rfl⟩ := h; simp [isAgg, run_underlying hu, sizeOf, typeInfo, hi])

theorem run_load {w : World} {p : Addr} {v : Value} (h : w.cell? p = some v) : (load p).run P w = .ok v w := by
  simp [load, Sem.run, h]

theorem run_loadCellsFrom {w : World} {p : Addr} : ∀ (vs : List Value) (i : Nat) (acc : Array Value), (∀ j v, vs[j]? = some v → w.cell? (p.add (i + j)) = some v) →
    (loadCellsFrom p i vs.length acc).run P w = .ok (acc ++ vs.toArray) w := by
  intro vs
  induction vs with
  | nil => intro i acc _; simp [loadCellsFrom]
  | cons v vs ih =>
    intro i acc h
    have h0 := h 0 v rfl
    rw [Nat.add_zero] at h0
    have := ih (i + 1) (acc.push v) (fun j u hu => by have := h (j + 1) u (by simpa using hu); rwa [show i + (j + 1) = i + 1 + j by omega] at this)
    simp [loadCellsFrom, run_load h0, this]

theorem add_plain (b off j : Nat) : (⟨b, off, none⟩ : Addr).add j = ⟨b, off + j, none⟩ := by
  unfold Addr.add; split <;> simp_all

theorem run_loadVar_one {w : World} {t : TypeId} {p : Addr} {v : Value} (ht : tsh P t = some none) (h : w.cell? p = some v) : (loadVar t p).run P w = .ok v w := by
  simp [loadVar, tsh_one ht, h]
theorem run_loadVar_many {w : World} {t : TypeId} {b off : Nat} {vs : List Value} (ht : tsh P t = some (some vs.length)) (h : ∀ j v, vs[j]? = some v → w.cell? ⟨b, off + j, none⟩ = some v) :
    (loadVar t ⟨b, off, none⟩).run P w = .ok (.agg vs.toArray) w := by
  have := run_loadCellsFrom (P := P) (w := w) (p := ⟨b, off, none⟩) vs 0 #[] (fun j v hv => by rw [add_plain, Nat.zero_add]; exact h j v hv)
  simp [loadVar, (tsh_many ht).1, (tsh_many ht).2, loadCells, this]

/-- One cell out of a block that the walk knows. -/
theorem wp_load1 (S : St F w0 w L) {b off : Nat} {cs : List Value} {T' : TypeId} {f : Nat × Nat} {v : Value} (hx : a.eval x = .pointer (some ⟨b, off, none⟩)) (hm : Has L (Sx.cb b cs T' f)) [ht : TSh P T none]
    (hc : cs[off]? = some v) (hk : K (a.put d v) w) : Oper.wp P ⟨d, .load T x, ty, pos, af, g⟩ a w K Q := by
  refine wp_val (v := v) (w' := w) ?_ hk
  have := run_loadVar_one (P := P) ht.eq (cell_of (S.cb hm) hc)
  simp [execOp, Instr.loadAt, Instr.sureAddr, hx, this]
/-- A whole struct or array. -/
theorem wp_loadN (S : St F w0 w L) {b off n : Nat} {cs vs : List Value} {T' : TypeId} {f : Nat × Nat} (hx : a.eval x = .pointer (some ⟨b, off, none⟩)) (hm : Has L (Sx.cb b cs T' f)) [ht : TSh P T (some n)]
    (hc : (cs.drop off).take n = vs) (hn : vs.length = n) (hk : K (a.put d (.agg vs.toArray)) w) : Oper.wp P ⟨d, .load T x, ty, pos, af, g⟩ a w K Q := by
  refine wp_val (v := .agg vs.toArray) (w' := w) ?_ hk
  subst hn
  have := run_loadVar_many (P := P) (b := b) (off := off) ht.eq (fun j v hv => cell_of (S.cb hm) (by
    rw [← hc, List.getElem?_take] at hv
    split at hv
    · rwa [List.getElem?_drop] at hv
    · simp at hv))
  simp [execOp, Instr.loadAt, Instr.sureAddr, hx, this]

/-- Out of whatever memory. -/
theorem wp_load1_at {b off : Nat} {v : Value} (hx : a.eval x = .pointer (some ⟨b, off, none⟩)) [ht : TSh P T none]
    (hc : w.cell? ⟨b, off, none⟩ = some v) (hk : K (a.put d v) w) : Oper.wp P ⟨d, .load T x, ty, pos, af, g⟩ a w K Q := by
  refine wp_val (v := v) (w' := w) ?_ hk
  have := run_loadVar_one (P := P) ht.eq hc
  simp [execOp, Instr.loadAt, Instr.sureAddr, hx, this]
theorem wp_loadN_at {b off n : Nat} {vs : List Value} (hx : a.eval x = .pointer (some ⟨b, off, none⟩)) [ht : TSh P T (some n)] (hn : vs.length = n)
    (hc : ∀ j v, vs[j]? = some v → w.cell? ⟨b, off + j, none⟩ = some v) (hk : K (a.put d (.agg vs.toArray)) w) : Oper.wp P ⟨d, .load T x, ty, pos, af, g⟩ a w K Q := by
  refine wp_val (v := .agg vs.toArray) (w' := w) ?_ hk
  subst hn
  have := run_loadVar_many (P := P) (b := b) (off := off) ht.eq hc
  simp [execOp, Instr.loadAt, Instr.sureAddr, hx, this]

/-! #### Stores -/
def World.putObj (w : World) (b : Nat) (o : Obj) : World := { w with heap := w.heap.setIfInBounds b o }
theorem putObj_mod (w : World) (b : Nat) (o : Obj) : Mod (· ∈ [b]) w (World.putObj w b o) :=
  ⟨rfl, rfl, rfl, by simp [World.putObj], Nat.le_refl _, fun k _ hb => by simp at hb; simp [World.putObj, Array.getElem?_setIfInBounds_ne (Ne.symm hb)]⟩
theorem putObj_at {w : World} {b : Nat} {o o' : Obj} (h : w.heap[b]? = some o') : (World.putObj w b o).heap[b]? = some o := by
  obtain ⟨hlt, _⟩ := Array.getElem?_eq_some_iff.1 h
  simp [World.putObj, hlt]
theorem setCell_putObj {w : World} {b off : Nat} {cs : List Value} {T : TypeId} {f : Nat × Nat} (h : w.heap[b]? = some (.cells cs.toArray T f)) (v : Value) :
    w.setCell ⟨b, off, none⟩ v = World.putObj w b (.cells (cs.set off v).toArray T f) := by
  obtain ⟨hlt, he⟩ := Array.getElem?_eq_some_iff.1 h
  unfold World.setCell World.putObj
  congr 1
  apply Array.ext_getElem?
  intro i
  rw [Array.getElem?_modify]
  by_cases hi : b = i
  · subst hi
    simp [hlt, he]
  · simp [hi, Array.getElem?_setIfInBounds_ne hi]
theorem putObj_putObj (w : World) (b : Nat) (o o' : Obj) : World.putObj (World.putObj w b o) b o' = World.putObj w b o' := by
  simp [World.putObj]

def oneCell : Value → Bool
  | .agg _ | .tuple _ => false
  | _ => true
/-- A list's cells from 'off' on, written anew. -/
def setL : List Value → Nat → List Value → List Value
  | cs, _, [] => cs
  | cs, off, v :: vs => setL (cs.set off v) (off + 1) vs
theorem length_setL : ∀ (vs cs : List Value) (off : Nat), (setL cs off vs).length = cs.length
  | [], _, _ => rfl
  | v :: vs, cs, off => by rw [setL, length_setL]; simp

theorem run_store {w : World} {b off : Nat} {cs : List Value} {T : TypeId} {f : Nat × Nat} (hfr : f.2 ≤ f.1 ∨ cs.length ≤ f.1) (h : w.heap[b]? = some (.cells cs.toArray T f)) (hlt : off < cs.length) {v : Value} (hv : oneCell v = true) :
    (store ⟨b, off, none⟩ v).run P w = .ok () (World.putObj w b (.cells (cs.set off v).toArray T f)) := by
  have hc : w.cell? ⟨b, off, none⟩ = some cs[off] := cell_of h (by simp [hlt])
  have hf := frozen_of h hfr hlt
  rw [← setCell_putObj h]
  cases v <;> simp_all [store, Sem.run, oneCell]

theorem run_storeCells {b off : Nat} {T : TypeId} {f : Nat × Nat} : ∀ (vs : List Value) (i : Nat) (cs : List Value) (w : World), (f.2 ≤ f.1 ∨ cs.length ≤ f.1) → w.heap[b]? = some (.cells cs.toArray T f) → off + i + vs.length ≤ cs.length →
    (∀ v ∈ vs, oneCell v = true) → (storeCells ⟨b, off, none⟩ vs i).run P w = .ok () (World.putObj w b (.cells (setL cs (off + i) vs).toArray T f)) := by
  intro vs
  induction vs with
  | nil =>
    intro i cs w _ h _ _
    have : World.putObj w b (.cells cs.toArray T f) = w := by
      obtain ⟨hlt, he⟩ := Array.getElem?_eq_some_iff.1 h
      have e : w.heap.setIfInBounds b (.cells cs.toArray T f) = w.heap := by
        rw [← he]
        apply Array.ext_getElem?
        intro k
        rw [Array.getElem?_setIfInBounds]
        split
        · rename_i hk; subst hk; simp [hlt]
        · rfl
      unfold World.putObj
      rw [e]
    simp [storeCells, setL, this]
  | cons v vs ih =>
    intro i cs w hfr h hle hv
    simp only [List.length_cons] at hle
    have h1 := run_store (P := P) hfr h (off := off + i) (by omega) (hv v (by simp))
    have h2 := ih (i + 1) (cs.set (off + i) v) (World.putObj w b (.cells (cs.set (off + i) v).toArray T f)) (by simpa using hfr) (putObj_at h) (by simp; omega) (fun u hu => hv u (by simp [hu]))
    rw [putObj_putObj] at h2
    simp [storeCells, add_plain, h1, h2, setL, Nat.add_assoc]

theorem run_storeVar {w : World} {t : TypeId} {b off : Nat} {cs vs : List Value} {v : Value} {T : TypeId} {f : Nat × Nat} (hfr : f.2 ≤ f.1 ∨ cs.length ≤ f.1) (h : w.heap[b]? = some (.cells cs.toArray T f)) (hv : v.cells = vs.toArray)
    (hs : (P.info? t).map (·.size) = some vs.length) (hle : off + vs.length ≤ cs.length) (h1 : ∀ v ∈ vs, oneCell v = true) :
    (storeVar t ⟨b, off, none⟩ v).run P w = .ok () (World.putObj w b (.cells (setL cs off vs).toArray T f)) := by
  obtain ⟨i, hi, hsz⟩ := Option.map_eq_some_iff.1 hs
  have := run_storeCells (P := P) (b := b) (off := off) vs 0 cs w hfr h (by omega) h1
  simp [storeVar, sizeOf, typeInfo, hi, hsz, hv, this]

theorem wp_store (S : St F w0 w L) {b off : Nat} {cs vs cs' : List Value} {T' : TypeId} {f : Nat × Nat} {v : Value} (hx : a.eval x = .pointer (some ⟨b, off, none⟩)) (hy : a.eval y = v) (hv : v.cells = vs.toArray)
    (hu : Upd L (Sx.cb b cs T' f) (Sx.cb b cs' T' f) L') (hfr : f.2 ≤ f.1 ∨ cs.length ≤ f.1) {n : Nat} [hs : TSz P T n] (hn : vs.length = n) (hcs : setL cs off vs = cs') (hle : decide (off + vs.length ≤ cs.length) = true) (h1 : vs.all oneCell = true)
    (hk : ∀ w1, St F w0 w1 L' → K (a.put d undef) w1) : Oper.wp P ⟨d, .store T x y, ty, pos, af, g⟩ a w K Q := by
  have hb : w.heap[b]? = some (.cells cs.toArray T' f) := S.ok _ hu.mem
  have hr := run_storeVar (P := P) (t := T) hfr hb hv (hn ▸ hs.eq) (off := off) (by simpa using hle) (by simpa using h1)
  rw [hcs] at hr
  refine wp_unit (w' := World.putObj w b (.cells cs'.toArray T' f)) ?_ (hk _ ?_)
  · simp [execOp, Instr.storeAt, Instr.sureAddr, hx, hy, hr]
  · exact S.upd hu (putObj_mod w b _) (putObj_at hb) (by simp [Sx.cb, blk]) (fun i hi => .inl hi)

end

/-! ### 5. A drawn region's operations -/
section
variable {P : Program} {ops : Array Oper} {S : World → Prop} {fin : Act → Prop} {o : Oper} {rest : List Oper} {a : Act}
theorem HD_nil (h : fin a) : HD P ops S fin [] a := h
def dstIn (o : Oper) (n : Nat) : Bool := match o.dst with | some d => decide (d < n) | none => true
theorem HD_op {v : Value} (hg : Region.wanted o (yielded ops a.tmps) = true) (hd : dstIn o a.tmps.size = true) (h : ∀ w, S w → ∀ K : Act → World → Prop, (∀ w', S w' → K (a.put o.dst v) w') → o.wp P a w K NoQ)
    (hr : HD P ops S fin rest (a.put o.dst v)) : HD P ops S fin (o :: rest) a := by
  rw [HD, if_pos hg]
  refine ⟨v, fun w hS => res_of_wp (fun d hd' => ?_) (h w hS _ fun w' hS' => ⟨rfl, hS'⟩), hr⟩
  simpa [dstIn, hd'] using hd
theorem HD_skip (hg : Region.wanted o (yielded ops a.tmps) = false) (hr : HD P ops S fin rest (a.put o.dst undef)) : HD P ops S fin (o :: rest) a := by
  rw [HD, if_neg (by simp [hg])]; exact hr

/-- A guard that isn't known: both. -/
theorem HD_by {c b : Bool} {j : Nat} (hg : o.guard = some (j, b)) (hy : yielded ops a.tmps j = some c) (ht : c = b → HD P ops S fin (o :: rest) a) (hf : c = (!b) → HD P ops S fin (o :: rest) a) : HD P ops S fin (o :: rest) a := by
  cases c <;> cases b <;> first | exact ht rfl | exact hf rfl

/-- The whole statement. -/
theorem wp_region_D {l : List Oper} {Q : Exit → Act → World → Prop} {id : Nat} {w : World} (S : World → Prop) (hm : P.follows .mixedOrders = true) (hok : (regOk l.toArray l.length && decide (l.length ≤ l.toArray.size)) = true) (hS : S w.drew)
    (h : HD P l.toArray S (fun a => ∀ w, S w → Q .normal a w) l a) : (Code.region id l.toArray true).wp P Q a w := by
  refine wp_region_HD S l.length hm hok hS ?_
  simp only [List.take_length]
  have e : List.drop l.length l = [] := List.drop_length
  simp only [e]
  exact h
end
end Go.Sx
