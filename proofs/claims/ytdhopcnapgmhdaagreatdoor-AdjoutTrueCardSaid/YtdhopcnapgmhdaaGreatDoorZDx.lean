/-
  Plain laws on the data and on what the functions compute (no program in sight).
-/
import Derived.Test.YtdhopcnapgmhdaaGreatDoorZDw
set_option linter.unusedSimpArgs false
set_option linter.unusedVariables false
set_option linter.unusedSectionVars false
namespace Go.Hd
open Go Go.Sx
/-! ### The law on adjout: its steps -/
structure Stp where
  a : Int
  ids : Int
  med : Int
def Stp.ok (s : Stp) : Prop := (0 ≤ s.a ∧ s.a ≤ 255) ∧ (0 ≤ s.ids ∧ s.ids ≤ 255) ∧ (0 ≤ s.med ∧ s.med ≤ 255)
def Stp.cells (s : Stp) : List Value := [.int .u8 s.a, .int .u8 s.ids, .int .u8 s.med]
abbrev Stp.val (s : Stp) : Value := .agg s.cells.toArray
def adr (a : Int) : List UInt8 := UInt8.ofNat (10 + (a % 3).toNat) :: List.replicate (if a % 6 < 3 then 3 else 15) 0
def pfx (a : Int) : Pfx := ⟨1 + (a % 6) / 3, 0, adr a, 8⟩
def bitOf (ids : Int) (k : Nat) : Bool := bits BinOp.and IntKind.u8 (ids / 2 ^ k) 1 == 1
def mkc (s : Stp) (k : Nat) : Ch := ⟨false, ⟨⟨1 + (s.a % 6) / 3, 0, adr s.a, 8⟩, k, 0⟩, ⟨0, true, s.med % 3 + k⟩⟩
def wantTo (s : Stp) (k : Nat) : List Ch := ((List.range k).filter (bitOf s.ids)).map (mkc s)
theorem wantTo_succ (s : Stp) (k : Nat) : wantTo s (k + 1) = wantTo s k ++ if bitOf s.ids k then [mkc s k] else [] := by
  unfold wantTo
  rw [List.range_succ, List.filter_append, List.map_append]
  cases h : bitOf s.ids k <;> simp [h]
theorem wantTo_len (s : Stp) (k : Nat) : (wantTo s k).length ≤ k := by
  unfold wantTo; rw [List.length_map]; exact Nat.le_trans (List.length_filter_le _ _) (by simp)
end Go.Hd
