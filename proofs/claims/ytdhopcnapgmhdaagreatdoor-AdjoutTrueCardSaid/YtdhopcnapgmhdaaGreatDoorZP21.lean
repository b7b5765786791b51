/-
  Walks: what functions of the program return and which memory they touch.
-/
import Derived.Test.YtdhopcnapgmhdaaGreatDoorZP20l
import Derived.Test.YtdhopcnapgmhdaaGreatDoorTie
import Derived.Test.YtdhopcnapgmhdaaGreatDoorCards
import Derived.ProofKit
import Derived.Lay
import Derived.LaidOnce
import Derived.SevenTiedAt
import Derived.SizedLaws
import Derived.Handed
import Derived.Shelf.Vars
import Derived.Deep.Slices
import Derived.Deep.Fields
import Derived.ChangeSame
import Derived.Below
import Derived.Carry
set_option linter.unusedSimpArgs false
set_option linter.unusedVariables false
set_option linter.unusedSectionVars false
namespace Go.Proofs.T
open Go Go.RowKit Go.Proofs Go.Sx Go.Hd Go.ChangeShapes Go.WideShapes Go.ChangeAt Go.Deep Go.WideElems
theorem flat_inv {α : Type} {enc : α → List Value} : ∀ (l : List α) (n : Nat) (u : Value), (∀ x, (enc x).length = 3) → (l.map enc).flatten[n]? = some u → ∃ i q x, n = i * 3 + q ∧ l[i]? = some x ∧ (enc x)[q]? = some u := by
  intro l
  induction l with
  | nil => intro n u _ h; simp at h
  | cons y l ih =>
    intro n u hk h
    rw [List.map_cons, List.flatten_cons, List.getElem?_append] at h
    split at h
    · exact ⟨0, n, y, by omega, rfl, h⟩
    · rename_i hn
      rw [hk] at h hn
      obtain ⟨i, q, x, h1, h2, h3⟩ := ih _ _ hk h
      exact ⟨i + 1, q, x, by omega, by simpa using h2, h3⟩
theorem cell_plain {w : World} {a : Addr} {v : Value} (h : w.cell? a = some v) : a = ⟨a.block, a.off, none⟩ ∧ a.block < w.heap.size := by
  obtain ⟨b, o, s⟩ := a
  unfold World.cell? at h
  cases hb : w.heap[b]? with
  | none => simp [hb] at h
  | some x =>
    have hlt := (Array.getElem?_eq_some_iff.1 hb).1
    rw [show ({ block := b, off := o, spot := s } : Addr).block = b from rfl, hb] at h
    cases x <;> simp at h
    cases s with
    | none => exact ⟨rfl, hlt⟩
    | some s => simp at h
/-- A row of steps that came in, read as steps. -/
theorem arg_in {w : World} {a : Addr} {len cap : Nat} (h : ∀ i, i < len → ∃ s : Stp, s.ok ∧ ∀ q u, s.cells[q]? = some u → w.cell? (a.add (i * 3 + q)) = some u) :
    ∃ l : List Stp, l.length = len ∧ (∀ s ∈ l, s.ok) ∧ ArgIn w (.slice (some a) len cap) l.length (l.map Stp.cells).flatten := by
  have hd : ∃ f : Nat → Stp, ∀ i, i < len → (f i).ok ∧ ∀ q u, (f i).cells[q]? = some u → w.cell? (a.add (i * 3 + q)) = some u := by
    refine ⟨fun i => if hi : i < len then (h i hi).choose else ⟨0, 0, 0⟩, fun i hi => ?_⟩
    simp only [hi, dite_true]
    exact (h i hi).choose_spec
  obtain ⟨f, hf⟩ := hd
  refine ⟨(List.range len).map f, by simp, fun s hs => ?_, some a, cap, by simp, fun h0 => ?_⟩
  · obtain ⟨i, hi, rfl⟩ := List.mem_map.1 hs
    exact (hf i (List.mem_range.1 hi)).1
  · have h0' : 0 < len := by simpa using h0
    have hc := (hf 0 h0').2 0 _ rfl
    obtain ⟨ha, hlt⟩ := cell_plain (show w.cell? a = _ from hc)
    refine ⟨a.block, a.off, congrArg some ha, hlt, fun j u hj => ?_⟩
    obtain ⟨i, q, x, rfl, hx, hq⟩ := flat_inv _ _ _ (fun _ => rfl) hj
    rw [List.getElem?_map] at hx
    obtain ⟨i', hi', rfl⟩ := Option.map_eq_some_iff.1 hx
    obtain ⟨hil, rfl⟩ := List.getElem?_eq_some_iff.1 hi'
    rw [List.getElem_range] at hq
    have := (hf i (by simpa using hil)).2 q u hq
    rw [ha] at this
    simp only [Addr.add] at this
    split at this
    · rename_i hz; rw [hz]; exact this
    · exact this
end Go.Proofs.T
