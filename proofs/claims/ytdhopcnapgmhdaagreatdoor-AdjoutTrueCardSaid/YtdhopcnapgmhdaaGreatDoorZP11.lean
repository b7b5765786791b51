/-
  Walks: what functions of the program return and which memory they touch.
-/
import Derived.Test.YtdhopcnapgmhdaaGreatDoorZP9
import Derived.Test.YtdhopcnapgmhdaaGreatDoorZSg
import Derived.Test.YtdhopcnapgmhdaaGreatDoorZLa
set_option linter.unusedSimpArgs false
set_option linter.unusedVariables false
set_option linter.unusedSectionVars false
open Go Go.RowKit Go.Proofs Go.Sx Go.Hd Go.Sort
namespace Go.Proofs.T
set_option maxRecDepth 100000
attribute [local irreducible] Oper.wp Calls Code.wp wpList HD HX

instance : Inhabited Ch := ⟨⟨false, ⟨⟨0, 0, [], 0⟩, 0, 0⟩, ⟨0, false, 0⟩⟩⟩
theorem swoC : SWO (ltOf cmpC) := by
  have hc := cmpC_cmpr
  refine ⟨fun x => ?_, fun x y z h1 h2 => ?_, fun x y z h1 h2 => ?_⟩
  · have := hc.flip x x
    simp only [ltOf, decide_eq_false_iff_not]; omega
  · simp only [ltOf, decide_eq_true_eq] at *
    have f1 := hc.flip x y
    have f2 := hc.flip y z
    have f3 := hc.flip x z
    have h := hc.trans x y z (by omega) (by omega)
    rcases Int.lt_or_eq_of_le h with h | h
    · exact h
    · have := hc.trans y z x (by omega) (by omega)
      omega
  · simp only [ltOf, decide_eq_false_iff_not] at *
    have f1 := hc.flip x y
    have f2 := hc.flip y z
    have f3 := hc.flip x z
    have := hc.trans z y x (by omega) (by omega)
    omega
theorem cmpLaysC (blk off size : Nat) (w : World) : CmpLays Tryz.prog 158 #[] Ch.cells 23 cmpC blk off size w :=
  fun _ _ _ _ x y => (sorted1_any x y _).mono fun _ _ h => ⟨h.1, Mod.grow h.2⟩
theorem aggT84 (w : World) : (isAgg 84).run Tryz.prog w = .ok true w ∧ (Go.sizeOf 84).run Tryz.prog w = .ok 23 w := tsh_many (TSh.eq (P := Tryz.prog) (t := 84))
theorem cells_one (x : Ch) : ∀ v ∈ x.cells, v.oneCell' = true := by
  intro v hv
  simp only [Ch.cells, List.mem_cons, List.not_mem_nil, or_false] at hv
  rcases hv with rfl | rfl | rfl | rfl | rfl | rfl | rfl | rfl | rfl | rfl | rfl | rfl | rfl | rfl | rfl | rfl | rfl | rfl | rfl | rfl | rfl | rfl | rfl <;> rfl
end Go.Proofs.T
