/-
  Own lemmas for walks over memory: states, blocks, maps, rows (no program in sight but the rules).
-/
import Derived.Test.YtdhopcnapgmhdaaGreatDoorZSf
set_option linter.unusedSimpArgs false
set_option linter.unusedVariables false
set_option linter.unusedSectionVars false
namespace Go.Sx
open Go.RowKit
section
variable {P : Program} {Q : Exit → Act → World → Prop} {K : Act → World → Prop} {F : Nat → Prop} {w0 w : World} {L L' : List It} {a : Act}
  {d : Option Tmp} {T ty T2 : TypeId} {x y z : Operand} {pos : String} {af : Array Edge} {g : Option (Nat × Bool)}
/-- 'append' of what lies in a block of the walk's own. -/
theorem wp_appendOwn (S : St F w0 w L) {e : TypeId} {size bytes : Nat} [ht : TSl P T e size bytes] {v : Value} {n : Nat} {xs : List Value} {b m c : Nat} {news : List Value} {e' : TypeId} {f : Nat × Nat}
    (hs : a.eval x = v) (hx : a.eval y = .slice (some ⟨b, 0, none⟩) m c) (ho : Out L (ow v e size n xs) L') (hm : Has L (cb b news e' f)) (hl : news.length = m * size) (h1 : news.all Value.oneCell' = true)
    (h63 : n + m ≤ maxLen) (hbytes : (n + m) * bytes ≤ 140737488355328)
    (hk : ∀ v' w', St F w0 w' (ow v' e size (n + m) (xs ++ news) :: L') → (v' = .slice none 0 0 ↔ v = .slice none 0 0 ∧ m = 0) → K (a.put d v') w') :
    Oper.wp P ⟨d, .call ⟨.builtin .append, #[x, y], #[T, T]⟩, ty, pos, af, g⟩ a w K Q :=
  wp_append S hs hx ho hl (fun j u hj => by
    rw [add_plain, Nat.zero_add]
    exact cell_of (S.cb hm) hj) h1 h63 hbytes hk
/-- A nil slice is an own slice. -/
theorem St.nilSlice (S : St F w0 w L) (e : TypeId) (size : Nat) : St F w0 w (ow (.slice none 0 0) e size 0 [] :: L) :=
  ⟨S.mod, by simpa [ow, Value.ownBlock] using S.sep, fun x hx => by
    rcases List.mem_cons.1 hx with rfl | hx
    · exact ⟨by simp, .inl ⟨rfl, rfl⟩⟩
    · exact S.ok x hx, fun x hx b hb => by
    rcases List.mem_cons.1 hx with rfl | hx
    · simp [ow, Value.ownBlock] at hb
    · exact S.lt x hx b hb, fun x hx b hb h => by
    rcases List.mem_cons.1 hx with rfl | hx
    · simp [ow, Value.ownBlock] at hb
    · exact S.own x hx b hb h⟩

/-- A walk that begins with two old blocks in its hands. -/
theorem St.two {b1 b2 : Nat} {o1 o2 : Obj} (h1 : w.heap[b1]? = some o1) (h2 : w.heap[b2]? = some o2) (hne : b1 ≠ b2) : St (fun k => k = b1 ∨ k = b2) w w [blk b1 o1, blk b2 o2] := by
  have l1 : b1 < w.heap.size := (Array.getElem?_eq_some_iff.1 h1).1
  have l2 : b2 < w.heap.size := (Array.getElem?_eq_some_iff.1 h2).1
  refine ⟨Mod.refl _ _, by simpa [blk] using hne, ?_, ?_, ?_⟩
  · intro x hx
    simp only [List.mem_cons, List.not_mem_nil, or_false] at hx
    rcases hx with rfl | rfl
    · exact h1
    · exact h2
  · intro x hx b hb
    simp only [List.mem_cons, List.not_mem_nil, or_false] at hx
    rcases hx with rfl | rfl <;> simp [blk] at hb <;> subst hb <;> assumption
  · intro x hx b hb _
    simp only [List.mem_cons, List.not_mem_nil, or_false] at hx
    rcases hx with rfl | rfl <;> simp [blk] at hb <;> subst hb <;> simp
/-- .. and leaves them as they were. -/
theorem St.const2 {b1 b2 : Nat} {o1 o2 : Obj} (h1 : w0.heap[b1]? = some o1) (h2 : w0.heap[b2]? = some o2) (S : St (fun k => k = b1 ∨ k = b2) w0 w (L ++ [blk b1 o1, blk b2 o2])) : St Nil w0 w L := by
  have e1 : w.heap[b1]? = some o1 := S.ok (blk b1 o1) (by simp)
  have e2 : w.heap[b2]? = some o2 := S.ok (blk b2 o2) (by simp)
  have hsep := S.sep
  rw [List.flatMap_append, List.nodup_append] at hsep
  refine ⟨⟨S.mod.os, S.mod.tape, S.mod.output, S.mod.size, S.mod.drawn, fun k hk _ => ?_⟩, hsep.1, fun x hx => S.ok x (by simp [hx]), fun x hx => S.lt x (by simp [hx]), fun x hx b hb hlt => ?_⟩
  · by_cases k1 : k = b1
    · subst k1; rw [e1, h1]
    · by_cases k2 : k = b2
      · subst k2; rw [e2, h2]
      · exact S.mod.block k hk (by simp [k1, k2])
  · rcases S.own x (by simp [hx]) b hb hlt with h | h
    · exact absurd rfl (hsep.2.2 b (List.mem_flatMap.2 ⟨x, hx, hb⟩) b (by simp [blk, h]))
    · exact absurd rfl (hsep.2.2 b (List.mem_flatMap.2 ⟨x, hx, hb⟩) b (by simp [blk, h]))
end
end Go.Sx
