/-
  Walks: what functions of the program return and which memory they touch.
-/
import Derived.Test.YtdhopcnapgmhdaaGreatDoorZP19
import Derived.Deep.Cut
import Derived.Deep.CutRange
import Derived.Test.YtdhopcnapgmhdaaGreatDoorZDz
set_option linter.unusedSimpArgs false
set_option linter.unusedVariables false
set_option linter.unusedSectionVars false
open Go Go.RowKit Go.Proofs Go.Sx Go.Hd
namespace Go.Proofs.T
set_option maxRecDepth 100000
attribute [local irreducible] Oper.wp Calls Code.wp wpList HD HX

/-- An argument that is a row of cells: it may start anywhere in its block. -/
def ArgIn (w : World) (v : Value) (n : Nat) (xs : List Value) : Prop :=
  ∃ (p : Option Addr) (cap : Nat), v = .slice p n cap ∧ (0 < n → ∃ bs off, p = some ⟨bs, off, none⟩ ∧ bs < w.heap.size ∧ ∀ j u, xs[j]? = some u → w.cell? ⟨bs, off + j, none⟩ = some u)
theorem cell_eq {W w : World} {b o : Nat} (h : W.heap[b]? = w.heap[b]?) : W.cell? ⟨b, o, none⟩ = w.cell? ⟨b, o, none⟩ := by
  simp only [World.cell?, h]
/-- The loops of a code, the outer ahead of the inner. -/
def loops : Code → List Code
  | .loop c => .loop c :: loops c
  | .seq a b => loops a ++ loops b
  | .block _ c => loops c
  | .scope c => loops c
  | .cond _ a b => loops a ++ loops b
  | _ => []
noncomputable def loop5 (n : Nat) : Code := (Tryz.f5.body.bind fun b => (loops b)[n]?).getD .skip
end Go.Proofs.T
