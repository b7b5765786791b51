/-
  Walks: what functions of the program return and which memory they touch.
-/
import Derived.Test.YtdhopcnapgmhdaaGreatDoorZP11
import Derived.Shelf.SlSortCmp.WholeK
set_option linter.unusedSimpArgs false
set_option linter.unusedVariables false
set_option linter.unusedSectionVars false
open Go Go.RowKit Go.Proofs Go.Sx Go.Hd Go.Sort
namespace Go.Proofs.T
set_option maxRecDepth 100000
attribute [local irreducible] Oper.wp Code.wp wpList HD HX

theorem SortFunc_some (l : List Ch) (b cap : Nat) (w : World) (h : w.ownsRow 0 84 23 (.slice (some ⟨b, 0, none⟩) l.length cap) l.length (l.map Ch.cells).flatten) (hlt : b < w.heap.size) (hsz : l.length < 4611686018427387904) :
    Calls Tryz.prog 121 #[.slice (some ⟨b, 0, none⟩) l.length cap, .func (.func 158) #[] #[]] w fun e w' => ∃ l' : List Ch, e = .returned (.tuple #[]) ∧ l'.Perm l ∧ (l'.Pairwise fun x y => cmpC x y ≤ 0) ∧
      St (· ∈ [b]) w w' [ow (.slice (some ⟨b, 0, none⟩) l.length cap) 84 23 l.length (l'.map Ch.cells).flatten] := by
  have eg : ∀ args w, (callFunc 158 args).run Tryz.prog w = .ok (.enter 158 args) w := enters_of Tryz.func158 (by kernel_rfl) rfl
  have hk : ∀ x : Ch, x.cells.length = 23 := fun _ => rfl
  obtain ⟨_, hH⟩ := holdsK_of_row (enc := Ch.cells) hk (by decide) h
  have hcon := AnyQ.slices_SortFunc Tryz.sortCh 23 (fun w => (aggT84 w).1) (fun w => (aggT84 w).2) Ch.cells hk cells_one cmpC swoC 158 #[] b 0 cap l.toArray w eg (cmpLaysC b 0 l.toArray.size w) hH hlt (by simpa using hsz)
  change Calls Tryz.prog 121 _ _ _ at hcon
  refine hcon.mono ?_
  rintro e w' ⟨rfl, d', n, os, hp, hs, rfl⟩
  obtain ⟨hp1, _, hp3⟩ := hp
  have hp1 : d'.toList.length = l.length := by simpa using hp1
  have hr := row_sorted (enc := Ch.cells) (l' := d'.toList) (m := n) (os := os) hk (by decide) h hp1 hlt
  rw [Array.toArray_toList] at hr
  refine ⟨d'.toList, rfl, ?_, ?_, ⟨hr.2, by simp [ow, Value.ownBlock], fun x hx => ?_, fun x hx c hc => ?_, fun x hx c hc _ => ?_⟩⟩
  · have e1 : (d'.extract 0 l.toArray.size).toList = d'.toList := by
      rw [Array.toList_extract]; simp [← hp1]; exact List.take_of_length_le (by simp)
    have e2 : (l.toArray.extract 0 l.toArray.size).toList = l := by simp
    rw [e1, e2] at hp3
    exact hp3
  · rw [List.pairwise_iff_getElem]
    intro i j hi hj hij
    have hs := hs i j (Nat.zero_le _) hij (by simpa [← hp1] using hj)
    simp only [ltOf, decide_eq_false_iff_not] at hs
    have g1 : d'[i]! = d'.toList[i] := by simp at hi; simp [hi]
    have g2 : d'[j]! = d'.toList[j] := by simp at hj; simp [hj]
    rw [g1, g2] at hs
    have := cmpC_cmpr.flip (d'.toList[i]) (d'.toList[j])
    omega
  · simp only [List.mem_singleton] at hx; subst hx; exact hr.1
  · simp only [List.mem_singleton] at hx; subst hx
    simp [ow, Value.ownBlock] at hc; subst hc
    exact Nat.lt_of_lt_of_le hlt hr.2.size
  · simp only [List.mem_singleton] at hx; subst hx
    simpa [ow, Value.ownBlock] using hc

theorem insertion_nil (v : Value) (w : World) : Calls Tryz.prog 201 #[.slice none 0 0, .int .i64 0, .int .i64 0, v] w fun e w' => e = .returned (.tuple #[]) ∧ w = w' := by
  go_enter Tryz.func201, Tryz.ntmps201
  go_wp2
  go_loopw [8] (fun i wr => i = .int .i64 1 ∧ w = wr) (fun i _ => 0)
  case atStart => exact ⟨rfl, rfl⟩
  case round =>
    obtain ⟨rfl, rfl⟩ := hrel
    go_wp2
    go_end0
    exact ⟨rfl, rfl⟩
theorem pdq_nil (k : Int) (v : Value) (w : World) : Calls Tryz.prog 174 #[.slice none 0 0, .int .i64 0, .int .i64 0, .int .i64 k, v] w fun e w' => e = .returned (.tuple #[]) ∧ w = w' := by
  go_enter Tryz.func174, Tryz.ntmps174
  go_wp2
  go_loopw [1, 2] (fun i j wr => i = .int .i64 0 ∧ j = .int .i64 0 ∧ w = wr) (fun _ _ _ => 0)
  case atStart => exact ⟨rfl, rfl, rfl⟩
  case round =>
    obtain ⟨rfl, rfl, rfl⟩ := hrel
    go_wp2_with (go_at_call 201; refine (insertion_nil _ _).mono ?_; rintro e w' ⟨rfl, rfl⟩)
    (try simp only [Exit.inBlock, Exit.then])
    refine bodyPost_ret (results_none rfl _ _ _) rfl ?_
    exact ⟨rfl, rfl⟩
theorem bitsLen0 (w : World) : Calls Tryz.prog 175 #[.int .u64 0] w fun e w' => e = .returned (.int .i64 0) ∧ w = w' :=
  (Any.bits_Len (SlLaysF0.n15.bits (P := Tryz.prog) (ρ := Tryz.sortCh_ren) { Tryz.sortCh with }) 0 w (by omega) (by omega)).mono fun _ _ h => ⟨h.1, h.2.symm⟩
theorem SortFunc_nil (v : Value) (w : World) : Calls Tryz.prog 121 #[.slice none 0 0, v] w fun e w' => e = .returned (.tuple #[]) ∧ w = w' := by
  go_enter Tryz.func121, Tryz.ntmps121
  go_wp2_with (first | (go_at_call 175; refine (bitsLen0 _).mono ?_; rintro e w' ⟨rfl, rfl⟩) | (go_at_call 174; refine (pdq_nil _ _ _).mono ?_; rintro e w' ⟨rfl, rfl⟩))
  go_end0
  exact ⟨rfl, rfl⟩
theorem sorted93_any (l : List Ch) (v : Value) (w : World) (h : (ow v 84 23 l.length (l.map Ch.cells).flatten).P w) (hlt : ∀ b ∈ v.ownBlock.toList, b < w.heap.size) (hsz : l.length < 4611686018427387904) :
    Calls Tryz.prog 93 #[v] w fun e w' => ∃ l' : List Ch, e = .returned v ∧ l'.Perm l ∧ (l'.Pairwise fun x y => cmpC x y ≤ 0) ∧ St (· ∈ v.ownBlock.toList) w w' [ow v 84 23 l.length (l'.map Ch.cells).flatten] := by
  have h' : w.ownsRow 0 84 23 v l.length (l.map Ch.cells).flatten := h
  rcases h'.2 with ⟨rfl, hn⟩ | ⟨g, cap, cur, rfl, _⟩
  · have hl : l = [] := List.eq_nil_of_length_eq_zero hn
    subst hl
    have S := (St.init (· ∈ (Value.slice none 0 0).ownBlock.toList) w).nilSlice 84 23
    go_enter Tryz.func93, Tryz.ntmps93
    go_wp2_with (go_at_call 121; refine (SortFunc_nil _ _).mono ?_; rintro e w' ⟨rfl, rfl⟩)
    go_ret
    exact ⟨[], rfl, List.Perm.refl _, List.Pairwise.nil, S⟩
  · have hlt := hlt g (by simp [Value.ownBlock])
    go_enter Tryz.func93, Tryz.ntmps93
    go_wp2_with (go_at_call 121; refine (SortFunc_some l g cap _ h' hlt hsz).mono ?_; rintro e w' ⟨l', rfl, hp, hs, S⟩)
    go_ret
    exact ⟨l', rfl, hp, hs, by simpa [Value.ownBlock] using S⟩
end Go.Proofs.T
