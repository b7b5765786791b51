/-
  Plain laws on the data and on what the functions compute (no program in sight).
-/
import Derived.Test.YtdhopcnapgmhdaaGreatDoorZSe
set_option linter.unusedSimpArgs false
set_option linter.unusedVariables false
set_option linter.unusedSectionVars false
namespace Go.Hd
open Go Go.Sx

/-! ### Prefixes -/
structure Pfx where
  fam : Int
  rd : Int
  addr : List UInt8
  len : Int
  deriving DecidableEq

abbrev str (l : List UInt8) : Value := .string ⟨l.toArray⟩
def Pfx.cells (p : Pfx) : List Value := [.int .i64 p.fam, .int .u64 p.rd, str p.addr, .int .i64 p.len]
abbrev Pfx.val (p : Pfx) : Value := .agg p.cells.toArray

def sizeOf (fam : Int) : Int := if fam = 1 ∨ fam = 3 ∨ fam = 4 then 4 else if fam = 2 ∨ fam = 5 then 16 else 0
theorem sizeOf_cases (fam : Int) : sizeOf fam = 0 ∨ sizeOf fam = 4 ∨ sizeOf fam = 16 := by unfold sizeOf; split <;> (try split) <;> simp
def apartB (fam : Int) : Bool := fam == 4 || fam == 5

def maskB (n : Int) (i : Nat) (b : UInt8) : UInt8 := if n - 8 * i ≤ 0 then 0 else if n - 8 * i < 8 then b &&& ((255 : UInt8) <<< UInt8.ofNat (8 - (n - 8 * i)).toNat) else b
def mkL (n : Int) (l : List UInt8) (k : Nat) : List UInt8 := l.mapIdx fun i b => if i < k then maskB n i b else b
def maskL (n : Int) (l : List UInt8) : List UInt8 := l.mapIdx (maskB n)

theorem mkL_length (n : Int) (l : List UInt8) (k : Nat) : (mkL n l k).length = l.length := by simp [mkL]
theorem mkL_zero (n : Int) (l : List UInt8) : mkL n l 0 = l := by
  apply List.ext_getElem?; intro i; simp [mkL]
theorem mkL_all (n : Int) (l : List UInt8) : mkL n l l.length = maskL n l := by
  apply List.ext_getElem?
  intro i
  simp only [mkL, maskL, List.getElem?_mapIdx]
  by_cases h : i < l.length
  · simp [h]
  · simp [Nat.not_lt.1 h]
theorem mkL_get (n : Int) (l : List UInt8) (k : Nat) (h : k < l.length) : (mkL n l k)[k]'(by simpa [mkL] using h) = l[k] := by simp [mkL]
theorem mkL_set (n : Int) (l : List UInt8) (k : Nat) (h : k < l.length) : (mkL n l k).set k (maskB n k l[k]) = mkL n l (k + 1) := by
  apply List.ext_getElem?
  intro i
  rw [List.getElem?_set]
  simp only [mkL, List.getElem?_mapIdx, List.length_mapIdx]
  by_cases hi : k = i
  · subst hi; simp [h]
  · simp only [hi, if_false]
    by_cases h1 : i < k
    · simp [h1, Nat.lt_succ_of_lt h1]
    · have : ¬ i < k + 1 := by omega
      simp [h1, this]
theorem mkL_same (n : Int) (l : List UInt8) (k : Nat) (h : k < l.length) (hs : maskB n k l[k] = l[k]) : mkL n l (k + 1) = mkL n l k := by
  rw [← mkL_set n l k h, hs]
  apply List.ext_getElem?
  intro i
  rw [List.getElem?_set]
  split
  · rename_i hk; subst hk; simp [mkL, h]
  · rfl

/-- May a prefix be? -/
def okP (p : Pfx) : Bool :=
  !(sizeOf p.fam == 0) && ((p.addr.length : Int) == sizeOf p.fam) && !decide (p.len < 0) && !decide (8 * sizeOf p.fam < p.len) && !((p.rd != 0) && !apartB p.fam) && (maskL p.len p.addr == p.addr)
def chkP (p : Pfx) : Int := if okP p then 0 else 2
end Go.Hd
