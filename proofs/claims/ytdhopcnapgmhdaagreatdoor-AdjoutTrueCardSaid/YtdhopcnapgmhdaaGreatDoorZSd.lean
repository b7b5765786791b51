/-
  Own lemmas for walks over memory: states, blocks, maps, rows (no program in sight but the rules).
-/
import Derived.Test.YtdhopcnapgmhdaaGreatDoorZSc
import Derived.WalkSpells
set_option linter.unusedSimpArgs false
set_option linter.unusedVariables false
set_option linter.unusedSectionVars false
namespace Go.Sx
open Go.RowKit
section
variable {P : Program} {Q : Exit → Act → World → Prop} {K : Act → World → Prop} {F : Nat → Prop} {w0 w : World} {L L' : List It} {a : Act}
  {d : Option Tmp} {T ty T2 : TypeId} {x y z : Operand} {pos : String} {af : Array Edge} {g : Option (Nat × Bool)}

theorem setL_one (cs : List Value) (k : Nat) (v : Value) : setL cs k [v] = cs.set k v := by
  simp [setL]

/-- One byte is written. -/
theorem wp_setByte (S : St F w0 w L) {b off n : Nat} {l : List UInt8} {rest : List Value} {e : TypeId} {f : Nat × Nat} (c : UInt8) (hx : a.eval x = .pointer (some ⟨b, off, none⟩)) (hy : a.eval y = .int .u8 c.toNat)
    (hu : Upd L (bt b l rest e f) (bt b (l.set off c) rest e f) L') [hs : TSz P T n] (hn1 : n = 1) (hn : (bytesV l ++ rest).length = f.1) (hlt : off < l.length)
    (hk : ∀ w1, St F w0 w1 L' → K (a.put d undef) w1) : Oper.wp P ⟨d, .store T x y, ty, pos, af, g⟩ a w K Q := by
  have hle : off + 1 ≤ (bytesV l ++ rest).length := by simp [bytesV]; omega
  refine wp_store S hx hy (vs := [.int .u8 c.toNat]) rfl hu (.inr (Nat.le_of_eq hn)) (by simp [hn1]) ?_ (by simpa using hle) rfl hk
  rw [setL_one, byteV_set _ _ _ _ hlt]

/-- One byte is read. -/
theorem wp_getByte (S : St F w0 w L) {b off : Nat} {l : List UInt8} {rest : List Value} {e : TypeId} {f : Nat × Nat} (hx : a.eval x = .pointer (some ⟨b, off, none⟩))
    (hm : Has L (bt b l rest e f)) [ht : TSh P T none] (hlt : off < l.length) (hk : K (a.put d (.int .u8 (l[off]).toNat)) w) : Oper.wp P ⟨d, .load T x, ty, pos, af, g⟩ a w K Q :=
  wp_load1 S hx hm (byteV_getElem l rest off hlt) hk
/-- 'string(b)'. -/
theorem wp_bytes2str' (S : St F w0 w L) {e bytes : Nat} [hT : TSl P T e 1 bytes] (he : P.underlying e = some (.int .u8)) (hsu : P.underlying T2 = some .string) {b n c : Nat} {l : List UInt8} {rest : List Value} {f : Nat × Nat} (hx : a.eval x = .slice (some ⟨b, 0, none⟩) n c)
    (hm : Has L (bt b l rest e f)) (hn : l.length = n) (hk : K (a.put d (.string ⟨l.toArray⟩)) w) : Oper.wp P ⟨d, .convert T T2 x, ty, pos, af, g⟩ a w K Q := by
  refine wp_bytes2str he hsu hx hn (fun j h => ?_) hk
  have : Has L (cb b (bytesV l ++ rest) e f) := hm
  exact cell_of (S.cb this) (byteV_getElem l rest j h)
end
/-! ### Guarded operations, in the text's order -/
section
variable {P : Program} {ops : Array Oper} {Q : Exit → Act → World → Prop} {a : Act} {w : World} {rest : List Oper} {o : Oper}
/-- A guarded operation behind one that was passed over. -/
theorem wpList_g0 {d : Option Tmp} {op : Op} {ty : TypeId} {pos : String} {af : Array Edge} {b : Bool} {j : Nat} (hy : yielded ops a.tmps j = none)
    (hf : wpList P ops Q rest (a.put d undef) w) : wpList P ops Q (⟨d, op, ty, pos, af, some (j, b)⟩ :: rest) a w := by
  have hw : Region.wanted ⟨d, op, ty, pos, af, some (j, b)⟩ (yielded ops a.tmps) = false := by simp [Region.wanted, hy]
  unfold wpList
  rw [if_neg (by simp [hw])]
  exact hf
/-- A guarded operation: done as if it had no guard, or passed over. -/
theorem wpList_g {d : Option Tmp} {op : Op} {ty : TypeId} {pos : String} {af : Array Edge} {c b : Bool} {j : Nat} (hy : yielded ops a.tmps j = some c)
    (ht : c = b → wpList P ops Q (⟨d, op, ty, pos, af, none⟩ :: rest) a w) (hf : c = (!b) → wpList P ops Q rest (a.put d undef) w) : wpList P ops Q (⟨d, op, ty, pos, af, some (j, b)⟩ :: rest) a w := by
  by_cases h : c = b
  · have hw : Region.wanted ⟨d, op, ty, pos, af, some (j, b)⟩ (yielded ops a.tmps) = true := by simp [Region.wanted, hy, h]
    have := ht h
    unfold wpList at this ⊢
    rw [if_pos hw]
    rw [if_pos (by simp [Region.wanted])] at this
    exact this
  · have hw : Region.wanted ⟨d, op, ty, pos, af, some (j, b)⟩ (yielded ops a.tmps) = false := by simp [Region.wanted, hy, h]
    unfold wpList
    rw [if_neg (by simp [hw])]
    exact hf (by cases c <;> cases b <;> simp_all)
end

/-! ### Against nil -/
section
variable {P : Program} {Q : Exit → Act → World → Prop} {K : Act → World → Prop} {w : World} {a : Act}
  {d : Option Tmp} {T ty T2 : TypeId} {x y z : Operand} {pos : String} {af : Array Edge} {g : Option (Nat × Bool)}
theorem wp_eqSliceNil {e : TypeId} {size bytes n c : Nat} {p : Option Addr} [ht : TSl P T e size bytes] (hx : a.eval x = .slice p n c) (hy : a.eval y = .slice none 0 0) (hk : K (a.put d (.bool p.isNone)) w) : Oper.wp P ⟨d, .binOp .eql T x y T2, ty, pos, af, g⟩ a w K Q := by
  refine wp_val (v := .bool p.isNone) (w' := w) ?_ hk
  have hg : (eqGuard .eql T x y (.slice p n c) (.slice none 0 0)).run P w = .ok () w := by simp [eqGuard]
  simp only [execOp, hx, hy, Sem.run_bind, hg, Lib.run_eql_slice_nil w T e p n c 0 0 ht.eq, Result.andThen_ok, Sem.run_pure]
theorem wp_eqMapNil {k e : TypeId} {p : Option Nat} [ht : TM P T k e] (hx : a.eval x = .map p) (hy : a.eval y = .map none) (hk : K (a.put d (.bool p.isNone)) w) : Oper.wp P ⟨d, .binOp .eql T x y T2, ty, pos, af, g⟩ a w K Q := by
  refine wp_val (v := .bool p.isNone) (w' := w) ?_ hk
  have hg : (eqGuard .eql T x y (.map p) (.map none)).run P w = .ok () w := by simp [eqGuard]
  simp only [execOp, hx, hy, Sem.run_bind, hg, run_eql_map_nil w T k e p ht.eq, Result.andThen_ok, Sem.run_pure]
end
end Go.Sx
