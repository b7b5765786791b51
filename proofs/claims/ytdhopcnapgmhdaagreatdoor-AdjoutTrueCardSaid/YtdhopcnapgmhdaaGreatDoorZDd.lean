/-
  Plain laws on the data and on what the functions compute (no program in sight).
-/
import Derived.Test.YtdhopcnapgmhdaaGreatDoorZSg
set_option linter.unusedSimpArgs false
set_option linter.unusedVariables false
set_option linter.unusedSectionVars false
namespace Go.Sx
/-! ### How far a walk over a map has come -/
def seenAt (w : World) (it : Nat) : Nat := match w.heap[it]? with | some (.mapIter _ _ s _) => s.size | _ => 0
theorem seenAt_of {w : World} {it r c : Nat} {seen : List Nat} (h : (mi it r c seen).P w) : seenAt w it = seen.length := by
  have h : w.heap[it]? = some (.mapIter (some r) c seen.toArray c) := h
  simp [seenAt, h]
theorem nodup_le : ∀ (s t : List Nat), s.Nodup → (∀ b ∈ s, b ∈ t) → s.length ≤ t.length
  | [], _, _, _ => by simp
  | b :: s, t, hn, h => by
    rw [List.nodup_cons] at hn
    have hb := h b (by simp)
    have := nodup_le s (t.erase b) hn.2 fun x hx => (List.mem_erase_of_ne (fun hh : x = b => hn.1 (by rw [← hh]; exact hx))).2 (h x (by simp [hx]))
    rw [List.length_erase_of_mem hb] at this
    have hpos : 0 < t.length := List.length_pos_of_mem hb
    simp only [List.length_cons]; omega
section
variable {κ ν : Type} [DecidableEq κ] {M : List (κ × ν × Nat)} {c : Nat} {seen : List Nat} {e : κ × ν × Nat}
/-- Met: each once, all of them there. -/
structure Met (M : List (κ × ν × Nat)) (seen : List Nat) : Prop where
  nodup : seen.Nodup
  sub : ∀ b ∈ seen, b ∈ M.map (·.2.2)
theorem Met.nil : Met M [] := ⟨by simp, by simp⟩
theorem Met.next (h : Met M seen) (he : e ∈ M) (hn : e.2.2 ∉ seen) : Met M (seen ++ [e.2.2]) :=
  ⟨by rw [List.nodup_append]; refine ⟨h.nodup, by simp, fun a ha b hb => ?_⟩; simp at hb; subst hb; exact fun h => hn (h ▸ ha), fun b hb => by
    rcases List.mem_append.1 hb with hb | hb
    · exact h.sub b hb
    · simp at hb; subst hb; exact List.mem_map.2 ⟨e, he, rfl⟩⟩
theorem Met.len (h : Met M seen) : seen.length ≤ M.length := by
  have := nodup_le _ _ h.nodup h.sub
  simpa using this
/-- One more met. -/
theorem met_step (hwf : WF M c) (he : e ∈ M) (hn : e.2.2 ∉ seen) (p : κ × ν × Nat → Bool) :
    (M.filter fun x => decide (x.2.2 ∈ seen ++ [e.2.2]) && p x).Perm ((M.filter fun x => decide (x.2.2 ∈ seen) && p x) ++ if p e then [e] else []) := by
  obtain ⟨A, B, rfl⟩ := List.append_of_mem he
  have hb := hwf.born
  rw [List.map_append, List.map_cons, List.nodup_append] at hb
  obtain ⟨_, h2, h3⟩ := hb
  rw [List.nodup_cons] at h2
  have hA : ∀ x ∈ A, (decide (x.2.2 ∈ seen ++ [e.2.2]) && p x) = (decide (x.2.2 ∈ seen) && p x) := by
    intro x hx
    have : x.2.2 ≠ e.2.2 := h3 _ (List.mem_map.2 ⟨x, hx, rfl⟩) _ (by simp)
    simp [this]
  have hB : ∀ x ∈ B, (decide (x.2.2 ∈ seen ++ [e.2.2]) && p x) = (decide (x.2.2 ∈ seen) && p x) := by
    intro x hx
    have : x.2.2 ≠ e.2.2 := fun h => h2.1 (List.mem_map.2 ⟨x, hx, h⟩)
    simp [this]
  rw [List.filter_append, List.filter_append, List.filter_congr hA, List.filter_cons, List.filter_cons, List.filter_congr hB]
  have e1 : decide (e.2.2 ∈ seen ++ [e.2.2]) = true := by simp
  have e2 : decide (e.2.2 ∈ seen) = false := by simp [hn]
  simp only [e1, e2, Bool.true_and, Bool.false_and, Bool.false_eq_true, if_false]
  split
  · rw [List.append_assoc]
    exact List.Perm.append_left _ (by simpa using (List.perm_append_comm (l₁ := [e])))
  · simp
theorem met_all (h : ∀ e ∈ M, e.2.2 ∈ seen) (p : κ × ν × Nat → Bool) : (M.filter fun x => decide (x.2.2 ∈ seen) && p x) = M.filter p :=
  List.filter_congr fun x hx => by simp [h x hx]
end
end Go.Sx
