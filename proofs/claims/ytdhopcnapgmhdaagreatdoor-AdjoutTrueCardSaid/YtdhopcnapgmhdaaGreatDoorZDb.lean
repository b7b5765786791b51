/-
  Plain laws on the data and on what the functions compute (no program in sight).
-/
import Derived.Test.YtdhopcnapgmhdaaGreatDoorZDa
import Derived.Lib.Bytealg
set_option linter.unusedSimpArgs false
set_option linter.unusedVariables false
set_option linter.unusedSectionVars false
namespace Go.Hd
open Go Go.Sx

/-! ### Orders -/
def cmpI (x y : Int) : Int := if x < y then -1 else if y < x then 1 else 0
def orI (x y : Int) : Int := if x = 0 then y else x
def cmpP (p q : Pfx) : Int := orI (cmpI p.fam q.fam) (orI (cmpI p.rd q.rd) (orI (Lib.compareBytes p.addr q.addr) (cmpI p.len q.len)))

/-! ### Changes with flat attributes -/
structure Nl where
  p : Pfx
  id : Int
  label : Int
  deriving DecidableEq
def Nl.cells (n : Nl) : List Value := [.int .i64 n.p.fam, .int .u64 n.p.rd, str n.p.addr, .int .i64 n.p.len, .int .u32 n.id, .int .u32 n.label]
abbrev Nl.val (n : Nl) : Value := .agg n.cells.toArray
structure Atr where
  origin : Int
  hasMed : Bool
  med : Int
  deriving DecidableEq
def Atr.cells (a : Atr) : List Value := [.int .i64 a.origin, .slice none 0 0, .string ⟨#[]⟩, .bool a.hasMed, .int .u32 a.med, .bool false, .int .u32 0, .bool false, .int .u32 0, .int .u32 0, .slice none 0 0, .slice none 0 0, .slice none 0 0, .bool false, .int .u32 0, .slice none 0 0]
abbrev Atr.val (a : Atr) : Value := .agg a.cells.toArray
structure Ch where
  gone : Bool
  n : Nl
  a : Atr
  deriving DecidableEq
def Ch.cells (c : Ch) : List Value := [.bool c.gone, .int .i64 c.n.p.fam, .int .u64 c.n.p.rd, str c.n.p.addr, .int .i64 c.n.p.len, .int .u32 c.n.id, .int .u32 c.n.label,
  .int .i64 c.a.origin, .slice none 0 0, .string ⟨#[]⟩, .bool c.a.hasMed, .int .u32 c.a.med, .bool false, .int .u32 0, .bool false, .int .u32 0, .int .u32 0, .slice none 0 0, .slice none 0 0, .slice none 0 0, .bool false, .int .u32 0, .slice none 0 0]
abbrev Ch.val (c : Ch) : Value := .agg c.cells.toArray
def okN (n : Nl) : Bool := okP n.p && !decide (1048575 < n.label) && !(decide (0 < n.label) && !(decide (3 ≤ n.p.fam) && decide (n.p.fam ≤ 5)))
def chkN (n : Nl) : Int := cond (okN n) 0 2
def okA (a : Atr) : Bool := !decide (a.origin < 0) && !decide (2 < a.origin) && !(!a.hasMed && a.med != 0)
def chkA (a : Atr) : Int := if okA a then 0 else 2
theorem chkP_ne (p : Pfx) : (chkP p != 0) = !okP p := by unfold chkP; cases okP p <;> rfl

/-! ### Keys of what was told -/
def keyE : Enc (Pfx × Int) where
  f k := k.1.cells ++ [.int .u32 k.2]
  ks := [.inl .i64, .inl .u64, .inr false, .inl .i64, .inl .u32]
  ok k := rfl
  inj a b h := by
    obtain ⟨⟨f, r, ad, l⟩, i⟩ := a
    obtain ⟨⟨f', r', ad', l'⟩, i'⟩ := b
    simp [Pfx.cells] at h
    obtain ⟨rfl, rfl, h, rfl, rfl⟩ := h
    subst h
    rfl
def Ch.key (c : Ch) : Pfx × Int := (c.n.p, c.n.id)
end Go.Hd
