/-
  Walks: what functions of the program return and which memory they touch.
-/
import Derived.Test.YtdhopcnapgmhdaaGreatDoorZP16
set_option linter.unusedSimpArgs false
set_option linter.unusedVariables false
set_option linter.unusedSectionVars false
open Go Go.RowKit Go.Proofs Go.Sx Go.Hd
namespace Go.Proofs.T
set_option maxRecDepth 100000
attribute [local irreducible] Oper.wp Calls Code.wp wpList HD HX

theorem Parse_v4_10 (m : Int) (w : World) (hg : w.cell? ⟨0, 0, none⟩ = some (.int .i64 m)) :
    Calls Tryz.prog 103 #[.string ⟨#[118, 52, 32, 49, 48, 46, 48, 46, 48, 46, 48, 47, 56]⟩] w fun e w' => e = .returned (.tuple #[.agg #[.int .i64 1, .int .u64 0, .string ⟨#[10, 0, 0, 0]⟩, .int .i64 8], .int .i64 0]) ∧ Mod Nil w w' :=
  Parse_lit [118, 52, 32, 49, 48, 46, 48, 46, 48, 46, 48, 47, 56] [118, 52] [49, 48, 46, 48, 46, 48, 46, 48, 47, 56] [49, 48, 46, 48, 46, 48, 46, 48] [56] [[49, 48], [48], [48], [48]] [10, 0, 0, 0] 1 8 m w (by decide) hg (by kernel_rfl) (by kernel_rfl) (by decide) (by decide)
    (by intro k h1 h2; have : k = 1 ∨ k = 2 ∨ k = 3 ∨ k = 4 ∨ k = 5 := by omega
        rcases this with rfl | rfl | rfl | rfl | rfl <;> rfl) (by kernel_rfl) (by decide) (by decide) (by kernel_rfl) (by simp [Lib.decDigits]) (by decide) (by decide) (by kernel_rfl) (by kernel_rfl) rfl rfl
    (by intro k h1 h2; have : k = 0 ∨ k = 1 ∨ k = 2 ∨ k = 3 := by simp at h1; omega
        rcases this with rfl | rfl | rfl | rfl <;> exact ⟨Nat.le_of_ble_eq_true rfl, by kernel_rfl, by simp [Lib.decDigits], Nat.le_of_ble_eq_true rfl⟩) (by kernel_rfl)

theorem Parse_v4_11 (m : Int) (w : World) (hg : w.cell? ⟨0, 0, none⟩ = some (.int .i64 m)) :
    Calls Tryz.prog 103 #[.string ⟨#[118, 52, 32, 49, 49, 46, 48, 46, 48, 46, 48, 47, 56]⟩] w fun e w' => e = .returned (.tuple #[.agg #[.int .i64 1, .int .u64 0, .string ⟨#[11, 0, 0, 0]⟩, .int .i64 8], .int .i64 0]) ∧ Mod Nil w w' :=
  Parse_lit [118, 52, 32, 49, 49, 46, 48, 46, 48, 46, 48, 47, 56] [118, 52] [49, 49, 46, 48, 46, 48, 46, 48, 47, 56] [49, 49, 46, 48, 46, 48, 46, 48] [56] [[49, 49], [48], [48], [48]] [11, 0, 0, 0] 1 8 m w (by decide) hg (by kernel_rfl) (by kernel_rfl) (by decide) (by decide)
    (by intro k h1 h2; have : k = 1 ∨ k = 2 ∨ k = 3 ∨ k = 4 ∨ k = 5 := by omega
        rcases this with rfl | rfl | rfl | rfl | rfl <;> rfl) (by kernel_rfl) (by decide) (by decide) (by kernel_rfl) (by simp [Lib.decDigits]) (by decide) (by decide) (by kernel_rfl) (by kernel_rfl) rfl rfl
    (by intro k h1 h2; have : k = 0 ∨ k = 1 ∨ k = 2 ∨ k = 3 := by simp at h1; omega
        rcases this with rfl | rfl | rfl | rfl <;> exact ⟨Nat.le_of_ble_eq_true rfl, by kernel_rfl, by simp [Lib.decDigits], Nat.le_of_ble_eq_true rfl⟩) (by kernel_rfl)

theorem Parse_v4_12 (m : Int) (w : World) (hg : w.cell? ⟨0, 0, none⟩ = some (.int .i64 m)) :
    Calls Tryz.prog 103 #[.string ⟨#[118, 52, 32, 49, 50, 46, 48, 46, 48, 46, 48, 47, 49, 54]⟩] w fun e w' => e = .returned (.tuple #[.agg #[.int .i64 1, .int .u64 0, .string ⟨#[12, 0, 0, 0]⟩, .int .i64 16], .int .i64 0]) ∧ Mod Nil w w' :=
  Parse_lit [118, 52, 32, 49, 50, 46, 48, 46, 48, 46, 48, 47, 49, 54] [118, 52] [49, 50, 46, 48, 46, 48, 46, 48, 47, 49, 54] [49, 50, 46, 48, 46, 48, 46, 48] [49, 54] [[49, 50], [48], [48], [48]] [12, 0, 0, 0] 1 16 m w (by decide) hg (by kernel_rfl) (by kernel_rfl) (by decide) (by decide)
    (by intro k h1 h2; have : k = 1 ∨ k = 2 ∨ k = 3 ∨ k = 4 ∨ k = 5 := by omega
        rcases this with rfl | rfl | rfl | rfl | rfl <;> rfl) (by kernel_rfl) (by decide) (by decide) (by kernel_rfl) (by simp [Lib.decDigits]) (by decide) (by decide) (by kernel_rfl) (by kernel_rfl) rfl rfl
    (by intro k h1 h2; have : k = 0 ∨ k = 1 ∨ k = 2 ∨ k = 3 := by simp at h1; omega
        rcases this with rfl | rfl | rfl | rfl <;> exact ⟨Nat.le_of_ble_eq_true rfl, by kernel_rfl, by simp [Lib.decDigits], Nat.le_of_ble_eq_true rfl⟩) (by kernel_rfl)

theorem Parse_v4_12_8 (m : Int) (w : World) (hg : w.cell? ⟨0, 0, none⟩ = some (.int .i64 m)) :
    Calls Tryz.prog 103 #[.string ⟨#[118, 52, 32, 49, 50, 46, 48, 46, 48, 46, 48, 47, 56]⟩] w fun e w' => e = .returned (.tuple #[.agg #[.int .i64 1, .int .u64 0, .string ⟨#[12, 0, 0, 0]⟩, .int .i64 8], .int .i64 0]) ∧ Mod Nil w w' :=
  Parse_lit [118, 52, 32, 49, 50, 46, 48, 46, 48, 46, 48, 47, 56] [118, 52] [49, 50, 46, 48, 46, 48, 46, 48, 47, 56] [49, 50, 46, 48, 46, 48, 46, 48] [56] [[49, 50], [48], [48], [48]] [12, 0, 0, 0] 1 8 m w (by decide) hg (by kernel_rfl) (by kernel_rfl) (by decide) (by decide)
    (by intro k h1 h2; have : k = 1 ∨ k = 2 ∨ k = 3 ∨ k = 4 ∨ k = 5 := by omega
        rcases this with rfl | rfl | rfl | rfl | rfl <;> rfl) (by kernel_rfl) (by decide) (by decide) (by kernel_rfl) (by simp [Lib.decDigits]) (by decide) (by decide) (by kernel_rfl) (by kernel_rfl) rfl rfl
    (by intro k h1 h2; have : k = 0 ∨ k = 1 ∨ k = 2 ∨ k = 3 := by simp at h1; omega
        rcases this with rfl | rfl | rfl | rfl <;> exact ⟨Nat.le_of_ble_eq_true rfl, by kernel_rfl, by simp [Lib.decDigits], Nat.le_of_ble_eq_true rfl⟩) (by kernel_rfl)

theorem Parse_l4_10 (m : Int) (w : World) (hg : w.cell? ⟨0, 0, none⟩ = some (.int .i64 m)) :
    Calls Tryz.prog 103 #[.string ⟨#[108, 52, 32, 49, 48, 46, 48, 46, 48, 46, 48, 47, 56]⟩] w fun e w' => e = .returned (.tuple #[.agg #[.int .i64 3, .int .u64 0, .string ⟨#[10, 0, 0, 0]⟩, .int .i64 8], .int .i64 0]) ∧ Mod Nil w w' :=
  Parse_lit [108, 52, 32, 49, 48, 46, 48, 46, 48, 46, 48, 47, 56] [108, 52] [49, 48, 46, 48, 46, 48, 46, 48, 47, 56] [49, 48, 46, 48, 46, 48, 46, 48] [56] [[49, 48], [48], [48], [48]] [10, 0, 0, 0] 3 8 m w (by decide) hg (by kernel_rfl) (by kernel_rfl) (by decide) (by decide)
    (by intro k h1 h2; have : k = 1 ∨ k = 2 ∨ k = 3 ∨ k = 4 ∨ k = 5 := by omega
        rcases this with rfl | rfl | rfl | rfl | rfl <;> rfl) (by kernel_rfl) (by decide) (by decide) (by kernel_rfl) (by simp [Lib.decDigits]) (by decide) (by decide) (by kernel_rfl) (by kernel_rfl) rfl rfl
    (by intro k h1 h2; have : k = 0 ∨ k = 1 ∨ k = 2 ∨ k = 3 := by simp at h1; omega
        rcases this with rfl | rfl | rfl | rfl <;> exact ⟨Nat.le_of_ble_eq_true rfl, by kernel_rfl, by simp [Lib.decDigits], Nat.le_of_ble_eq_true rfl⟩) (by kernel_rfl)

theorem Parse_l4_9 (m : Int) (w : World) (hg : w.cell? ⟨0, 0, none⟩ = some (.int .i64 m)) :
    Calls Tryz.prog 103 #[.string ⟨#[108, 52, 32, 57, 46, 48, 46, 48, 46, 48, 47, 56]⟩] w fun e w' => e = .returned (.tuple #[.agg #[.int .i64 3, .int .u64 0, .string ⟨#[9, 0, 0, 0]⟩, .int .i64 8], .int .i64 0]) ∧ Mod Nil w w' :=
  Parse_lit [108, 52, 32, 57, 46, 48, 46, 48, 46, 48, 47, 56] [108, 52] [57, 46, 48, 46, 48, 46, 48, 47, 56] [57, 46, 48, 46, 48, 46, 48] [56] [[57], [48], [48], [48]] [9, 0, 0, 0] 3 8 m w (by decide) hg (by kernel_rfl) (by kernel_rfl) (by decide) (by decide)
    (by intro k h1 h2; have : k = 1 ∨ k = 2 ∨ k = 3 ∨ k = 4 ∨ k = 5 := by omega
        rcases this with rfl | rfl | rfl | rfl | rfl <;> rfl) (by kernel_rfl) (by decide) (by decide) (by kernel_rfl) (by simp [Lib.decDigits]) (by decide) (by decide) (by kernel_rfl) (by kernel_rfl) rfl rfl
    (by intro k h1 h2; have : k = 0 ∨ k = 1 ∨ k = 2 ∨ k = 3 := by simp at h1; omega
        rcases this with rfl | rfl | rfl | rfl <;> exact ⟨Nat.le_of_ble_eq_true rfl, by kernel_rfl, by simp [Lib.decDigits], Nat.le_of_ble_eq_true rfl⟩) (by kernel_rfl)

/-- A change of a prefix that is read off a text. -/
theorem change48_any (s : List UInt8) (f ln id med m : Int) (bs : List UInt8) (w : World) (hg : w.cell? ⟨0, 0, none⟩ = some (.int .i64 m))
    (hP : ∀ w : World, w.cell? ⟨0, 0, none⟩ = some (.int .i64 m) → Calls Tryz.prog 103 #[str s] w fun e w' => e = .returned (.tuple #[.agg #[.int .i64 f, .int .u64 0, str bs, .int .i64 ln], .int .i64 0]) ∧ Mod Nil w w') :
    Calls Tryz.prog 48 #[str s, .int .u32 id, .int .u32 med] w fun e w' => e = .returned (Ch.val ⟨false, ⟨⟨f, 0, bs, ln⟩, id, 0⟩, ⟨0, true, med⟩⟩) ∧ Mod Nil w w' := by
  have S := St.init Nil w
  have tok : True := trivial
  go_enter Tryz.func48, Tryz.ntmps48
  repeat' (first
    | go_big_hide
    | go_big_move
    | go_big_cond
    | go_big_open
    | (have tk := tok; refine wp_alloc S rfl ?_; clear S tk tok; intro b1 w1 S; (try simp only [Value.cells, List.toList_toArray] at S); simp only [Act.put, List.setIfInBounds_toArray, List.set_cons_zero, List.set_cons_succ])
    | (show wpList _ _ _ (⟨_, _, _, _, _, some _⟩ :: _) _ _; first | (refine wpList_g rfl ?_ ?_ <;> (intro hc; (try simp only [Bool.not_true, Bool.not_false, reduceCtorEq] at hc); (try (change True at hc; clear hc)); (try simp only [hc, Bool.not_true, Bool.not_false]); (try simp only [Act.put, List.setIfInBounds_toArray, List.set_cons_zero, List.set_cons_succ, List.drop_zero, List.drop_succ_cons, List.take_succ_cons, List.take_zero, setL]))) | (refine wpList_g0 rfl ?_; (try simp only [Act.put, List.setIfInBounds_toArray, List.set_cons_zero, List.set_cons_succ, List.drop_zero, List.drop_succ_cons, List.take_succ_cons, List.take_zero, setL])))
    | (show Oper.wp _ _ _ _ _ _; (first | (show Oper.wp _ ⟨_, .box _ _, _, _, _, _⟩ _ _ _ _; refine wp_box S rfl rfl ?_; clear S; intro b w1 S) | (show Oper.wp _ ⟨_, .alloc _, _, _, _, _⟩ _ _ _ _; refine wp_alloc S rfl ?_; clear S; intro b w1 S; (try simp only [Value.cells, List.toList_toArray] at S)) | (show Oper.wp _ ⟨_, .load _ _, _, _, _, _⟩ _ _ _ _; refine wp_load1 S rfl (by with_reducible (repeat (first | exact Has.head | refine Has.tail ?_))) rfl ?_) | (show Oper.wp _ ⟨_, .load _ _, _, _, _, _⟩ _ _ _ _; refine wp_loadN S rfl (by with_reducible (repeat (first | exact Has.head | refine Has.tail ?_))) rfl rfl ?_) | (show Oper.wp _ ⟨_, .buildSlice _ _ _, _, _, _, _⟩ _ _ _ _; refine wp_buildSlice1 S rfl rfl rfl rfl ?_; clear S; intro b w1 S; (try simp only [Value.cells, List.toList_toArray, List.cons_append, List.nil_append, Act.eval, Array.getD_eq_getD_getElem?, List.getElem?_toArray, List.getElem?_cons_succ, List.getElem?_cons_zero, Option.getD_some] at S)) | (show Oper.wp _ ⟨_, .buildSlice _ _ _, _, _, _, _⟩ _ _ _ _; refine wp_buildSlice2 S rfl rfl rfl rfl rfl rfl rfl ?_; clear S; intro b w1 S; (try simp only [Value.cells, List.toList_toArray, List.cons_append, List.nil_append, Act.eval, Array.getD_eq_getD_getElem?, List.getElem?_toArray, List.getElem?_cons_succ, List.getElem?_cons_zero, Option.getD_some] at S)) | (show Oper.wp _ ⟨_, .buildSlice _ _ _, _, _, _, _⟩ _ _ _ _; refine wp_buildSlice3 S rfl rfl rfl rfl rfl rfl rfl rfl rfl rfl ?_; clear S; intro b w1 S; (try simp only [Value.cells, List.toList_toArray, List.cons_append, List.nil_append, Act.eval, Array.getD_eq_getD_getElem?, List.getElem?_toArray, List.getElem?_cons_succ, List.getElem?_cons_zero, Option.getD_some] at S)) | (show Oper.wp _ ⟨_, .buildSlice _ _ _, _, _, _, _⟩ _ _ _ _; refine wp_buildSlice4 S rfl rfl rfl rfl rfl rfl rfl rfl rfl rfl rfl rfl rfl ?_; clear S; intro b w1 S; (try simp only [Value.cells, List.toList_toArray, List.cons_append, List.nil_append, Act.eval, Array.getD_eq_getD_getElem?, List.getElem?_toArray, List.getElem?_cons_succ, List.getElem?_cons_zero, Option.getD_some] at S)) | (show Oper.wp _ ⟨_, .buildSlice _ _ _, _, _, _, _⟩ _ _ _ _; refine wp_buildSlice5 S rfl rfl rfl rfl rfl rfl rfl rfl rfl rfl rfl rfl rfl rfl rfl rfl ?_; clear S; intro b w1 S; (try simp only [Value.cells, List.toList_toArray, List.cons_append, List.nil_append, Act.eval, Array.getD_eq_getD_getElem?, List.getElem?_toArray, List.getElem?_cons_succ, List.getElem?_cons_zero, Option.getD_some] at S)) | (show Oper.wp _ ⟨_, .range _ _, _, _, _, _⟩ _ _ _ _; refine wp_rangeMap S rfl (by with_reducible (repeat (first | exact Has.head | refine Has.tail ?_))) ?_; clear S; intro it w1 S) | (show Oper.wp _ ⟨_, .next _ _, _, _, _, _⟩ _ _ _ _; refine wp_next S rfl (by with_reducible (repeat (first | exact Out.head | apply Out.tail))) (by with_reducible (repeat (first | exact Has.head | refine Has.tail ?_))) (by assumption) ?_ ?_ <;> clear S <;> first | (intro en hen hnew w1 S) | (intro hdone w1 S)) | (show Oper.wp _ ⟨_, .entry _, _, _, _, _⟩ _ _ _ _; refine wp_entry S en rfl (by with_reducible (repeat (first | exact Has.head | refine Has.tail ?_))) (by with_reducible (repeat (first | exact Has.head | refine Has.tail ?_))) (by assumption) (by assumption) ?_) | (show Oper.wp _ ⟨_, .makeMap _ _, _, _, _, _⟩ _ _ _ _; refine wp_makeMap S keyE Ch.val ?_; clear S; intro rm w1 S) | (show Oper.wp _ ⟨_, .call ⟨.builtin .len, _, _⟩, _, _, _, _⟩ _ _ _ _; refine wp_lenMap S rfl (by with_reducible (repeat (first | exact Has.head | refine Has.tail ?_))) ?_) | (show Oper.wp _ ⟨_, .call ⟨.builtin .append, _, _⟩, _, _, _, _⟩ _ _ _ _; refine wp_appendOwn S rfl rfl (by with_reducible (repeat (first | exact Out.head | apply Out.tail))) (by with_reducible (repeat (first | exact Has.head | refine Has.tail ?_))) rfl rfl (by assumption) (by assumption) ?_; clear S; intro va w1 S hva) | (show Oper.wp _ ⟨_, .store _ _ _, _, _, _, _⟩ _ _ _ _; refine wp_store S rfl rfl rfl (by with_reducible (repeat (first | exact Upd.head | apply Upd.tail))) (by first | exact .inl (Nat.le_refl _) | exact .inr (Nat.le_refl _)) rfl rfl rfl rfl ?_; clear S; intro w1 S; simp only [List.set_cons_zero, List.set_cons_succ, setL, Act.eval, Array.getD_eq_getD_getElem?, List.getElem?_toArray, List.getElem?_cons_succ, List.getElem?_cons_zero, Option.getD_some] at S) | (show Oper.wp _ ⟨_, .binOp .eql _ _ _ _, _, _, _, _⟩ _ _ _ _; refine wp_eqAgg rfl rfl rfl rfl ?_; simp only [eqCells, eqVal, Bool.and_true]) | (show Oper.wp _ ⟨_, .binOp .eql _ _ _ _, _, _, _, _⟩ _ _ _ _; refine wp_eqSliceNil rfl rfl ?_; simp only [Option.isNone_none, Option.isNone_some]) | (show Oper.wp _ ⟨_, .binOp .eql _ _ _ _, _, _, _, _⟩ _ _ _ _; refine wp_eqMapNil rfl rfl ?_; simp only [Option.isNone_none, Option.isNone_some]) | (show Oper.wp _ ⟨_, .binOp .neq _ _ _ _, _, _, _, _⟩ _ _ _ _; refine wp_neAgg rfl rfl rfl rfl ?_; simp only [eqCells, eqVal, Bool.and_true])) <;> simp only [Act.put, List.setIfInBounds_toArray, List.set_cons_zero, List.set_cons_succ, List.drop_zero, List.drop_succ_cons, List.take_succ_cons, List.take_zero, setL])
    | (go_at_call 103; refine (hP _ (S.cell_old hg (fun h => h))).mono ?_; rintro e w1 ⟨rfl, hm⟩; replace S := S.step hm; (try dsimp only))
    | go_step)
  refine post_cell S rfl rfl (Has.tail Has.head) rfl rfl ?_
  exact ⟨rfl, S.mod⟩
end Go.Proofs.T
