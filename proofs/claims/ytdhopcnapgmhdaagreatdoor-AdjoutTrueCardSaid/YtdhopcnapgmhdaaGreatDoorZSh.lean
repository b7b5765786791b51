/-
  Own lemmas for walks over memory: states, blocks, maps, rows (no program in sight but the rules).
-/
import Derived.Test.YtdhopcnapgmhdaaGreatDoorZDd
set_option linter.unusedSimpArgs false
set_option linter.unusedVariables false
set_option linter.unusedSectionVars false
namespace Go.Sx
open Go.RowKit
section
variable {P : Program} {Q : Exit → Act → World → Prop} {K : Act → World → Prop} {F G : Nat → Prop} {w0 w : World} {L L' : List It} {a : Act}
  {d : Option Tmp} {T ty T2 : TypeId} {x y z : Operand} {pos : String} {af : Array Edge} {g : Option (Nat × Bool)}

theorem St.weak (S : St F w0 w L) (h : ∀ k, k < w0.heap.size → F k → G k) : St G w0 w L :=
  ⟨S.mod.mono h, S.sep, S.ok, S.lt, fun x hx b hb hlt => h b hlt (S.own x hx b hb hlt)⟩
/-- An old block that the walk had in its hands and leaves as it was. -/
theorem St.drop1 {b : Nat} {o : Obj} (S : St F w0 w L) (h : w0.heap[b]? = some o) (ho : Out L (blk b o) L') : St (fun k => F k ∧ k ≠ b) w0 w L' := by
  have e1 : w.heap[b]? = some o := S.out ho
  have Sp := S.perm ho.perm
  have hsep := Sp.sep
  rw [List.flatMap_cons, List.nodup_append] at hsep
  refine ⟨⟨S.mod.os, S.mod.tape, S.mod.output, S.mod.size, S.mod.drawn, fun k hk hF => ?_⟩, hsep.2.1, fun x hx => Sp.ok x (by simp [hx]), fun x hx => Sp.lt x (by simp [hx]), fun x hx c hc hlt => ⟨Sp.own x (by simp [hx]) c hc hlt, ?_⟩⟩
  · by_cases k1 : k = b
    · subst k1; rw [e1, h]
    · exact S.mod.block k hk (by simpa [k1] using hF)
  · intro e
    exact hsep.2.2 b (by simp [blk]) c (List.mem_flatMap.2 ⟨x, hx, hc⟩) e.symm
/-- A walk that begins with old items in its hands. -/
theorem St.olds (L : List It) (hok : ∀ x ∈ L, x.P w) (hn : (L.flatMap It.fp).Nodup) (hlt : ∀ x ∈ L, ∀ b ∈ x.fp, b < w.heap.size) : St (· ∈ L.flatMap It.fp) w w L :=
  ⟨Mod.refl _ _, hn, hok, hlt, fun x hx b hb _ => List.mem_flatMap.2 ⟨x, hx, hb⟩⟩
theorem St.one1 {b : Nat} {o : Obj} (h : w.heap[b]? = some o) : St (fun k => k = b) w w [blk b o] := by
  have l1 : b < w.heap.size := (Array.getElem?_eq_some_iff.1 h).1
  exact ⟨Mod.refl _ _, by simp [blk], by simpa [blk] using h, by simpa [blk] using l1, by simp [blk]⟩

theorem St.back2 {o r : Nat} {o1 o2 : Obj} (h1 : w0.heap[o]? = some o1) (h2 : w0.heap[r]? = some o2) (S : St (fun k => k = o ∨ k = r) w0 w L) (g1 : Has L (blk o o1)) (g2 : Has L (blk r o2)) : Mod Nil w0 w :=
  ⟨S.mod.os, S.mod.tape, S.mod.output, S.mod.size, S.mod.drawn, fun k hk _ => by
    have e1 : w.heap[o]? = some o1 := S.get g1
    have e2 : w.heap[r]? = some o2 := S.get g2
    by_cases k1 : k = o
    · subst k1; rw [e1, h1]
    · by_cases k2 : k = r
      · subst k2; rw [e2, h2]
      · exact S.mod.block k hk (by simp [k1, k2])⟩

/-- The list of a walk's items. -/
def St.lst {F : Nat → Prop} {w0 w : World} {L : List It} (_ : St F w0 w L) : List It := L

/-! ### Rows that came in -/
/-- A slice of n elements, whose cells are xs: nil, or at the head of a block that meets X. -/
def RowIn (w : World) (v : Value) (n : Nat) (xs : List Value) (X : Nat → Prop) : Prop :=
  ∃ p cap, v = .slice p n cap ∧ (0 < n → ∃ b cs T f, p = some ⟨b, 0, none⟩ ∧ X b ∧ w.heap[b]? = some (.cells cs T f) ∧ cs.toList.take xs.length = xs)
theorem RowIn.of_ow {v : Value} {e : TypeId} {size n : Nat} {xs : List Value} {X : Nat → Prop} (h : (ow v e size n xs).P w) (hX : ∀ b ∈ v.ownBlock.toList, X b) : RowIn w v n xs X := by
  have h : w.ownsRow 0 e size v n xs := h
  rcases h.2 with ⟨rfl, rfl⟩ | ⟨g, cap, cur, rfl, _, hg, _, _, _, ht⟩
  · exact ⟨none, 0, rfl, fun h => absurd h (Nat.lt_irrefl _)⟩
  · exact ⟨some ⟨g, 0, none⟩, cap, rfl, fun _ => ⟨g, cur, e, (0, 0), rfl, hX g (by simp [Value.ownBlock]), hg, by rw [h.1]; exact ht⟩⟩
theorem RowIn.of_cb {b n c : Nat} {cs : List Value} {T : TypeId} {f : Nat × Nat} {X : Nat → Prop} (h : (cb b cs T f).P w) (hX : X b) : RowIn w (.slice (some ⟨b, 0, none⟩) n c) n cs X :=
  ⟨_, c, rfl, fun _ => ⟨b, cs.toArray, T, f, rfl, hX, h, by simp⟩⟩
theorem RowIn.nil {xs : List Value} {X : Nat → Prop} : RowIn w (.slice none 0 0) 0 xs X := ⟨none, 0, rfl, fun h => absurd h (Nat.lt_irrefl _)⟩
/-- Its cells. -/
theorem row_cell {b : Nat} {cs : Array Value} {T : TypeId} {f : Nat × Nat} {xs : List Value} (h : w.heap[b]? = some (.cells cs T f)) (ht : cs.toList.take xs.length = xs) {j : Nat} {v : Value} (hj : xs[j]? = some v) : w.cell? ⟨b, j, none⟩ = some v := by
  have h' : w.heap[b]? = some (.cells cs.toList.toArray T f) := by simpa using h
  refine cell_of h' ?_
  rw [← ht, List.getElem?_take] at hj
  split at hj
  · exact hj
  · cases hj
section
variable {α : Type} {enc : α → List Value} {k : Nat}
theorem flat_part (hk : ∀ x, (enc x).length = k) : ∀ (l : List α) (i j : Nat) (x : α) (v : Value), l[i]? = some x → (enc x)[j]? = some v → (l.map enc).flatten[i * k + j]? = some v := by
  intro l
  induction l with
  | nil => intro i j x v h; simp at h
  | cons y l ih =>
    intro i j x v h hv
    rw [List.map_cons, List.flatten_cons]
    cases i with
    | zero =>
      obtain rfl : y = x := by simpa using h
      have hj := (List.getElem?_eq_some_iff.1 hv).1
      rw [Nat.zero_mul, Nat.zero_add, List.getElem?_append_left hj, hv]
    | succ i =>
      rw [List.getElem?_append_right (by rw [hk, Nat.succ_mul]; omega), hk]
      have := ih i j x v (by simpa using h) hv
      rwa [show (i + 1) * k + j - k = i * k + j by rw [Nat.succ_mul]; omega]
end
theorem set_map {α : Type} (f : α → Value) (l : List α) (i : Nat) (x : α) : setL (l.map f) i [f x] = (l.set i x).map f := by simp [setL, List.map_set]
end
end Go.Sx
namespace Go.Sx
open Go.RowKit
section
variable {P : Program} {Q : Exit → Act → World → Prop} {K : Act → World → Prop} {F : Nat → Prop} {w0 w : World} {L L' : List It} {a : Act}
  {d : Option Tmp} {T ty T2 : TypeId} {x y : Operand} {pos : String} {af : Array Edge} {g : Option (Nat × Bool)}
/-- 'string(b)' of a slice of the call's own that is not empty. -/
theorem wp_bytes2strO (S : St F w0 w L) {e e2 bytes : Nat} [hT : TSl P T e 1 bytes] (he : P.underlying e = some (.int .u8)) (hsu : P.underlying T2 = some .string) {v : Value} {n : Nat} {l : List UInt8} (hx : a.eval x = v)
    (hm : Has L (ow v e2 1 n (bytesV l))) (hn : l.length = n) (h0 : 0 < n) (hk : K (a.put d (.string ⟨l.toArray⟩)) w) : Oper.wp P ⟨d, .convert T T2 x, ty, pos, af, g⟩ a w K Q := by
  have ho : w.ownsRow 0 e2 1 v n (bytesV l) := S.get hm
  rcases ho.2 with ⟨_, h⟩ | ⟨b, cap, cur, rfl, _⟩
  · omega
  · refine wp_bytes2str he hsu hx hn (fun j h => ?_) hk
    have := ho.cells (g := b) rfl j (byteV l[j]) (by simp [bytesV, h])
    rwa [add_plain, Nat.zero_add] at this
theorem Mod.cell_old {b off : Nat} {v : Value} (S : Mod F w0 w) (h : w0.cell? ⟨b, off, none⟩ = some v) (hf : ¬ F b) : w.cell? ⟨b, off, none⟩ = some v := by
  have hlt : b < w0.heap.size := by
    rcases Nat.lt_or_ge b w0.heap.size with h' | h'
    · exact h'
    · simp [World.cell?, Array.getElem?_eq_none h'] at h
  have e := S.block b hlt hf
  unfold World.cell? at *
  simp only [e]
  exact h
theorem St.cell_old {b off : Nat} {v : Value} (S : St F w0 w L) (h : w0.cell? ⟨b, off, none⟩ = some v) (hf : ¬ F b) : w.cell? ⟨b, off, none⟩ = some v := S.mod.cell_old h hf
/-- Two items share no block. -/
theorem St.ne {x y' : It} (S : St F w0 w L) (h : Out L y' L') (hx : Has L' x) : ∀ b ∈ x.fp, b ∉ y'.fp := by
  have hsep := (S.perm h.perm).sep
  rw [List.flatMap_cons, List.nodup_append] at hsep
  intro b hb hy
  exact hsep.2.2 b hy b (List.mem_flatMap.2 ⟨x, hx.mem, hb⟩) rfl
/-- Out of a row of the call's own. -/
theorem wp_load1O (S : St F w0 w L) {b off n m cap size : Nat} {e : TypeId} {xs : List Value} {v : Value} (hx : a.eval x = .pointer (some ⟨b, off, none⟩)) (hm : Has L (ow (.slice (some ⟨b, 0, none⟩) m cap) e size n xs)) [ht : TSh P T none]
    (hc : xs[off]? = some v) (hk : K (a.put d v) w) : Oper.wp P ⟨d, .load T x, ty, pos, af, g⟩ a w K Q := by
  have ho : w.ownsRow 0 e size (.slice (some ⟨b, 0, none⟩) m cap) n xs := S.get hm
  have := ho.cells (g := b) rfl off v hc
  rw [add_plain, Nat.zero_add] at this
  exact wp_load1_at hx this hk
theorem wp_loadNO (S : St F w0 w L) {b off n m cap size k : Nat} {e : TypeId} {xs vs : List Value} (hx : a.eval x = .pointer (some ⟨b, off, none⟩)) (hm : Has L (ow (.slice (some ⟨b, 0, none⟩) m cap) e size n xs)) [ht : TSh P T (some k)]
    (hc : (xs.drop off).take k = vs) (hn : vs.length = k) (hk : K (a.put d (.agg vs.toArray)) w) : Oper.wp P ⟨d, .load T x, ty, pos, af, g⟩ a w K Q := by
  have ho : w.ownsRow 0 e size (.slice (some ⟨b, 0, none⟩) m cap) n xs := S.get hm
  refine wp_loadN_at hx hn (fun j v hv => ?_) hk
  have := ho.cells (g := b) rfl (off + j) v (by
    rw [← hc, List.getElem?_take] at hv
    split at hv
    · rwa [List.getElem?_drop] at hv
    · simp at hv)
  rwa [add_plain, Nat.zero_add] at this
/-- A row of the call's own that is not empty lies in a block. -/
theorem ow_some {v : Value} {e : TypeId} {size n : Nat} {xs : List Value} (h : (ow v e size n xs).P w) : ∃ p cap, v = .slice p n cap ∧ (0 < n → ∃ b, p = some ⟨b, 0, none⟩) := by
  obtain ⟨p, cap, rfl, hp⟩ := RowIn.of_ow (X := fun _ => True) h (fun _ _ => trivial)
  exact ⟨p, cap, rfl, fun h0 => by obtain ⟨b, _, _, _, rfl, _⟩ := hp h0; exact ⟨b, rfl⟩⟩
end
end Go.Sx
