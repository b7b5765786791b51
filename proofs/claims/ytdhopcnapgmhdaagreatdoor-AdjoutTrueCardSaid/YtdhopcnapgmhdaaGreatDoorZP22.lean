/-
  Walks: what functions of the program return and which memory they touch.
-/
import Derived.Test.YtdhopcnapgmhdaaGreatDoorZP21
import Derived.Test.YtdhopcnapgmhdaaGreatDoorZP20l
set_option linter.unusedSimpArgs false
set_option linter.unusedVariables false
set_option linter.unusedSectionVars false
namespace Go.Proofs.YtdhopcnapgmhdaaGreatDoor
open Go Go.RowKit Go.Proofs Go.Sx Go.Hd Go.ChangeShapes Go.WideShapes Go.ChangeAt Go.Deep Go.WideElems
set_option maxRecDepth 100000

theorem own : ownKnob Tryz.prog.godebug = none := by kernel_rfl
theorem laidOut : laidOutB Tryz.prog = true := by kernel_rfl
theorem par5 : Tryz.f5.params = #[69] := by kernel_rfl
theorem und69 : Tryz.prog.underlying 69 = some (.slice 75) := by kernel_rfl
noncomputable def fs75 : Array Field := match Tryz.prog.underlying 75 with
  | some (.struct fs) => fs
  | _ => #[]
theorem und75 : Tryz.prog.underlying 75 = some (.struct fs75) := by kernel_rfl
theorem size75 : fs75.size = 3 := by kernel_rfl
theorem one75 : oneCellFields Tryz.prog fs75 = true := by kernel_rfl
theorem fld75 (j : Nat) (hj : j < 3) : ∃ f, fs75[j]? = some f ∧ f.type = 5 ∧ f.offset = j := by
  have h : (fs75.toList.map fun f => (f.type, f.offset)) = [(5, 0), (5, 1), (5, 2)] := by kernel_rfl
  have hs : j < fs75.size := by rw [size75]; exact hj
  refine ⟨fs75[j], by simp [hs], ?_⟩
  have h2 : (fs75.toList.map fun f => (f.type, f.offset))[j]? = some (fs75[j].type, fs75[j].offset) := by simp [hs]
  rw [h] at h2
  match j, hj with
  | 0, _ => simp at h2; exact ⟨h2.1.symm, h2.2.symm⟩
  | 1, _ => simp at h2; exact ⟨h2.1.symm, h2.2.symm⟩
  | 2, _ => simp at h2; exact ⟨h2.1.symm, h2.2.symm⟩
theorem cells5 : Tryz.prog.cellsOf 5 = 1 := by kernel_rfl
theorem und5 : Tryz.prog.underlying 5 = some (.int .u8) := by kernel_rfl
theorem und4 : Tryz.prog.underlying 4 = some .bool := by kernel_rfl
theorem cells75 : Tryz.prog.cellsOf 75 = 3 := by kernel_rfl
theorem maxLenCell {W : World} (h : W.ShapedOpen Tryz.prog) : ∃ m, W.cell? ⟨0, 0, none⟩ = some (.int .i64 m) :=
  cell_of_shapedOpen_int (t := 3) (zero := #[.int .i64 0]) h (of_decide_eq_true (by kernel_rfl)) (by kernel_rfl) rfl (by kernel_rfl) (by kernel_rfl) (by kernel_rfl)
noncomputable def seatLaid : List (String × DataW Unit) := Rows.adjoutTrueRow.laid
theorem witLaid (os : Os) (args : Array Value) : laidMetH Tryz.prog Rows.adjoutTrueRow.laid ((World.laidAll Tryz.prog os Rows.adjoutTrueRow.laid).forCall (fun _ _ => 0) ⟨#[], args, []⟩).memory := by
  rw [MakeChecks.laidMetH_plain _ _ _ (by kernel_rfl)]; exact laidMet_laidAll _ (by kernel_rfl) (by kernel_rfl)
/-- What came in as a row of steps: nothing, or cells that hold steps. -/
theorem open_steps {H : Type} {enc : TypeId × Value → H} {w : World} {base fuel : Nat} {spare : Nat → Bool} {held : Bool} {cs : List Value} {x : DataW H × List MemPlace}
    (h : DataW.trod enc Tryz.prog w base spare held fuel 69 cs = some x) : cs = [.slice none 0 0] ∨ ∃ (a : Addr) (len cap : Nat), cs = [.slice (some a) len cap] ∧ len ≤ cap ∧ cap ≤ maxLen ∧
      ∀ i, i < len → ∃ s : Stp, s.ok ∧ ∀ q u, s.cells[q]? = some u → w.cell? (a.add (i * 3 + q)) = some u := by
  rcases open_slice und69 h with ⟨h0, _⟩ | ⟨a, len, cap, mm, n, D, Pl, hcs, _, hl, hcm, hmm, _, hi⟩
  · exact .inl h0
  · have hle : len ≤ mm := by rw [hmm]; split <;> omega
    refine .inr ⟨a, len, cap, hcs, hl, hcm, fun i hil => ?_⟩
    obtain ⟨c, hc, ht⟩ := hi i (by omega)
    rw [cells75] at hc
    obtain ⟨ys, n', _, _, _, hyl, hf⟩ := DataW.trod_struct und75 ht
    obtain ⟨_, hcl, hat⟩ := World.cells?_some hc
    have one : ∀ j, j < 3 → ∃ x : Int, (0 ≤ x ∧ x ≤ 255) ∧ w.cell? (a.add (i * 3 + j)) = some (.int .u8 x) := by
      intro j hj
      obtain ⟨f, hfj, hft, hfo⟩ := fld75 j hj
      have hy := hf j f hfj
      have hys : ys[j]? = some (ys[j]'(by rw [hyl, size75]; exact hj)) := List.getElem?_eq_getElem _
      rw [hft, hfo, cells5, hys] at hy
      obtain ⟨x, hx, _, hwf⟩ := DataW.trod_int und5 hy
      refine ⟨x, by simpa [Lit.wf, IntKind.min, IntKind.max, IntKind.signed, IntKind.bits] using hwf, ?_⟩
      rw [← add_add, hat j hj]
      have := congrArg (fun l => l[0]?) hx
      simpa using this
    obtain ⟨x, hx, cx⟩ := one 0 (by omega)
    obtain ⟨y, hy, cy⟩ := one 1 (by omega)
    obtain ⟨z, hz, cz⟩ := one 2 (by omega)
    refine ⟨⟨x, y, z⟩, ⟨hx, hy, hz⟩, fun q u hq => ?_⟩
    match q, hq with
    | 0, hq => cases hq; exact cx
    | 1, hq => cases hq; exact cy
    | 2, hq => cases hq; exact cz
/-- A row of steps that came in, for the walk. -/
theorem steps_in {H : Type} {enc : TypeId × Value → H} {w : World} {r : Reach} {base : Nat} {v : Value} {d : DataW H} {p : List MemPlace} {spare : Nat → Bool} {held : Bool} {b0 : Nat}
    (hv : Value.okWide Tryz.prog w r base 69 v) (h : DataW.Trod enc Tryz.prog w b0 spare held 69 v d p) : ∃ l : List Stp, (∀ s ∈ l, s.ok) ∧ l.length ≤ 9223372036854775807 ∧ T.ArgIn w v l.length (l.map Stp.cells).flatten := by
  obtain ⟨pa, n, c, rfl⟩ := okWide_slice und69 hv
  obtain ⟨fuel, hf⟩ := h
  rcases open_steps hf with hcs | ⟨a, len, cap, hcs, hl, hcm, hi⟩
  · have hc2 : Value.slice pa n c = .slice none 0 0 := by simpa [Value.cells] using hcs
    exact ⟨[], by simp, by simp, none, 0, hc2, fun h => absurd h (Nat.lt_irrefl _)⟩
  · have hc2 : Value.slice pa n c = .slice (some a) len cap := by simpa [Value.cells] using hcs
    obtain ⟨l, hll, hok, hA⟩ := T.arg_in (w := w) (cap := cap) hi
    refine ⟨l, hok, ?_, by rw [hc2]; exact hA⟩
    unfold maxLen at hcm
    omega
end Go.Proofs.YtdhopcnapgmhdaaGreatDoor
