/-
  Own lemmas for walks over memory: states, blocks, maps, rows (no program in sight but the rules).
-/
import Derived.Test.YtdhopcnapgmhdaaGreatDoorZSe
import Derived.Shelf.SlSortCmp.InsertionK
set_option linter.unusedSimpArgs false
set_option linter.unusedVariables false
set_option linter.unusedSectionVars false
namespace Go.Sx
open Go.RowKit Go.Proofs Go.Sort

/-! ### A world in which nothing old has turned is the old one, with draws and blocks behind it -/
theorem Mod.grow {w w' : World} (h : Mod Nil w w') : ∃ q os', w' = Sort.grow (w.drewN q) os' := by
  refine ⟨w'.drawn - w.drawn, (w'.heap.toList.drop w.heap.size).toArray, ?_⟩
  have hheap : w'.heap = w.heap ++ (w'.heap.toList.drop w.heap.size).toArray := by
    apply Array.ext_getElem?
    intro i
    rcases Nat.lt_or_ge i w.heap.size with hi | hi
    · rw [Array.getElem?_append_left hi]; exact h.block i hi id
    · rw [Array.getElem?_append_right hi]
      simp only [List.getElem?_toArray, List.getElem?_drop, Array.getElem?_toList]
      congr 1; omega
  have hd := h.drawn
  have e1 := h.tape
  have e2 := h.os
  have e3 := h.output
  cases w with
  | mk h1 h2 h3 h4 h5 =>
    cases w' with
    | mk g1 g2 g3 g4 g5 =>
      simp only at e1 e2 e3 hheap hd
      subst e1; subst e2; subst e3
      simp only [Sort.grow, World.drewN]
      rw [← hheap]
      congr 1
      omega

/-! ### A row of structs -/
section
variable {α : Type} [Inhabited α] {enc : α → List Value} {k : Nat}
theorem flat_get (hk : ∀ x, (enc x).length = k) (hp : 0 < k) : ∀ (l : List α) (t : Nat), t < l.length * k → (l.map enc).flatten[t]? = some ((enc l.toArray[t / k]!)[t % k]!)
  | [], t, h => by simp at h
  | x :: l, t, h => by
    rw [List.map_cons, List.flatten_cons]
    rcases Nat.lt_or_ge t k with ht | ht
    · rw [List.getElem?_append_left (by rw [hk]; exact ht), Nat.div_eq_of_lt ht, Nat.mod_eq_of_lt ht]
      have : t < (enc x).length := by rw [hk]; exact ht
      simp [this]
    · rw [List.getElem?_append_right (by rw [hk]; exact ht), hk]
      have hlt : t - k < l.length * k := by
        rw [List.length_cons, Nat.succ_mul] at h; omega
      rw [flat_get hk hp l (t - k) hlt]
      have h1 : t / k = (t - k) / k + 1 := by
        rw [Nat.div_eq_sub_div hp ht]
      have h2 : t % k = (t - k) % k := Nat.mod_eq_sub_mod ht
      rw [h1, h2]
      simp
theorem flat_length (hk : ∀ x, (enc x).length = k) : ∀ l : List α, (l.map enc).flatten.length = l.length * k
  | [] => by simp
  | x :: l => by rw [List.map_cons, List.flatten_cons, List.length_append, hk, flat_length hk l, List.length_cons, Nat.succ_mul]; omega
theorem flatK_get (hk : ∀ x, (enc x).length = k) (hp : 0 < k) (l : List α) (t : Nat) (h : t < l.length * k) : (l.map enc).flatten[t]? = some ((flatK enc k l.toArray)[t]!) := by
  rw [flat_get hk hp l t h, get_flatK enc k l.toArray t (by simpa using h)]

theorem holdsK_of_row (hk : ∀ x, (enc x).length = k) (hp : 0 < k) {w : World} {e : TypeId} {b n cap : Nat} {l : List α} (h : w.ownsRow 0 e k (.slice (some ⟨b, 0, none⟩) n cap) n (l.map enc).flatten) : l.length = n ∧ HoldsK enc k w b 0 l.toArray := by
  obtain ⟨hlen, h⟩ := h
  rw [flat_length hk] at hlen
  have hn : l.length = n := Nat.eq_of_mul_eq_mul_right hp hlen
  refine ⟨hn, ?_⟩
  rcases h with ⟨h, _⟩ | ⟨g, cap', cur, hv, _, hg, h1, h2, h3, h4⟩
  · cases h
  · cases hv
    intro j hj
    rw [size_flatK] at hj
    have hj' : j < l.length * k := by simpa using hj
    have hc := flatK_get hk hp l j hj'
    rw [← h4, List.getElem?_take, if_pos (by rw [← hn]; exact hj')] at hc
    have hc' : cur[j]? = some (flatK enc k l.toArray)[j]! := by rw [← hc, Array.getElem?_toList]
    have hjc : j < cur.size := (Array.getElem?_eq_some_iff.1 hc').1
    constructor
    · simp [World.cell?, hg, hc']
    · simp [World.frozen?, hg]

/-- What the sort leaves. -/
theorem row_sorted (hk : ∀ x, (enc x).length = k) (hp : 0 < k) {w : World} {e : TypeId} {b n cap m : Nat} {l l' : List α} {os : Array Obj} (h : w.ownsRow 0 e k (.slice (some ⟨b, 0, none⟩) n cap) n (l.map enc).flatten) (hl : l'.length = l.length) (hb : b < w.heap.size) :
    (sortWorldK enc k w b 0 m l'.toArray os).ownsRow 0 e k (.slice (some ⟨b, 0, none⟩) n cap) n (l'.map enc).flatten ∧ Mod (· ∈ [b]) w (sortWorldK enc k w b 0 m l'.toArray os) := by
  obtain ⟨hlen, h⟩ := h
  rw [flat_length hk] at hlen
  have hn : l.length = n := Nat.eq_of_mul_eq_mul_right hp hlen
  have hat : ∀ i, i < w.heap.size → (sortWorldK enc k w b 0 m l'.toArray os).heap[i]? = if i = b then (w.heap[i]?).map (onCells (putCells id 0 (flatK enc k l'.toArray))) else w.heap[i]? := by
    intro i hi
    unfold sortWorldK Sort.grow putRowK putRow mapBlock Sort.ahead
    simp only
    rw [Array.getElem?_append_left (by simpa using hi), Array.getElem?_modify]
    by_cases hib : b = i
    · subst hib; simp
    · simp [hib, Ne.symm hib]
  constructor
  · refine ⟨by rw [flat_length hk, hl, hn], ?_⟩
    rcases h with ⟨h, _⟩ | ⟨g, cap', cur, hv, _, hg, h1, h2, h3, h4⟩
    · cases h
    · cases hv
      refine .inr ⟨b, cap, putCells id 0 (flatK enc k l'.toArray) cur, rfl, Nat.zero_le _, ?_, h1, h2, by simp [putCells, h3], ?_⟩
      · rw [hat b hb, if_pos rfl, hg]; rfl
      · apply List.ext_getElem?
        intro i
        rw [List.getElem?_take]
        by_cases hi : i < n * k
        · rw [if_pos hi, flatK_get hk hp l' i (by rw [hl, hn]; exact hi)]
          have hic : i < cur.size := by
            have := Nat.mul_le_mul_right k h1
            omega
          have hil : i < l'.length * k := by rw [hl, hn]; exact hi
          simp [putCells, hic, hil]
        · rw [if_neg hi, List.getElem?_eq_none (by rw [flat_length hk, hl, hn]; omega)]
  · refine ⟨rfl, rfl, rfl, ?_, ?_, fun i hi hne => ?_⟩
    · simp [sortWorldK, Sort.grow, putRowK, putRow, mapBlock, Sort.ahead]
    · simp [sortWorldK, Sort.grow, putRowK, putRow, mapBlock, Sort.ahead]
    · rw [hat i hi, if_neg (by simpa using hne)]
end
end Go.Sx
