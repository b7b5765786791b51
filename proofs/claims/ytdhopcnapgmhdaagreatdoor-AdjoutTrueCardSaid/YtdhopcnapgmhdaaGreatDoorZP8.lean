/-
  Walks: what functions of the program return and which memory they touch.
-/
import Derived.Test.YtdhopcnapgmhdaaGreatDoorZP2
import Derived.Test.YtdhopcnapgmhdaaGreatDoorZP4
import Derived.Test.YtdhopcnapgmhdaaGreatDoorZDb
set_option linter.unusedSimpArgs false
set_option linter.unusedVariables false
set_option linter.unusedSectionVars false
open Go Go.RowKit Go.Proofs Go.Sx Go.Hd
namespace Go.Proofs.T
set_option maxRecDepth 100000
attribute [local irreducible] Oper.wp Calls Code.wp wpList HD HX
theorem EqF_nil (v : Value) (w : World) : Calls Tryz.prog 167 #[.slice none 0 0, .slice none 0 0, v] w fun e w' => e = .returned (.bool true) ∧ w = w' := by
  go_enter Tryz.func167, Tryz.ntmps167
  go_wp2
  go_loopw [17] (fun i wr => i = .int .i64 0 ∧ w = wr) (fun i _ => 0)
  case atStart => exact ⟨rfl, rfl⟩
  case round =>
    obtain ⟨rfl, rfl⟩ := hrel
    go_wp2
    go_ret
    exact ⟨rfl, rfl⟩
theorem aspSame_nil (w : World) : Calls Tryz.prog 104 #[.slice none 0 0, .slice none 0 0] w fun e w' => e = .returned (.bool true) ∧ w = w' := by
  go_enter Tryz.func104, Tryz.ntmps104
  repeat' (first
    | go_big_hide
    | go_big_move
    | go_big_cond
    | go_big_open
    | (show wpList _ _ _ (⟨_, _, _, _, _, some _⟩ :: _) _ _; first | (refine wpList_g rfl ?_ ?_ <;> (intro hc; (try simp only [Bool.not_true, Bool.not_false, reduceCtorEq] at hc); (try (change True at hc; clear hc)); (try simp only [hc, Bool.not_true, Bool.not_false]); (try simp only [Act.put, List.setIfInBounds_toArray, List.set_cons_zero, List.set_cons_succ, List.drop_zero, List.drop_succ_cons, List.take_succ_cons, List.take_zero, setL]))) | (refine wpList_g0 rfl ?_; (try simp only [Act.put, List.setIfInBounds_toArray, List.set_cons_zero, List.set_cons_succ, List.drop_zero, List.drop_succ_cons, List.take_succ_cons, List.take_zero, setL])))
    | (show Oper.wp _ _ _ _ _ _; (first | (show Oper.wp _ ⟨_, .box _ _, _, _, _, _⟩ _ _ _ _; refine wp_box S rfl rfl ?_; clear S; intro b w1 S) | (show Oper.wp _ ⟨_, .alloc _, _, _, _, _⟩ _ _ _ _; refine wp_alloc S rfl ?_; clear S; intro b w1 S; (try simp only [Value.cells, List.toList_toArray] at S)) | (show Oper.wp _ ⟨_, .load _ _, _, _, _, _⟩ _ _ _ _; refine wp_load1 S rfl (by with_reducible (repeat (first | exact Has.head | refine Has.tail ?_))) rfl ?_) | (show Oper.wp _ ⟨_, .load _ _, _, _, _, _⟩ _ _ _ _; refine wp_loadN S rfl (by with_reducible (repeat (first | exact Has.head | refine Has.tail ?_))) rfl rfl ?_) | (show Oper.wp _ ⟨_, .buildSlice _ _ _, _, _, _, _⟩ _ _ _ _; refine wp_buildSlice1 S rfl rfl rfl rfl ?_; clear S; intro b w1 S; (try simp only [Value.cells, List.toList_toArray, List.cons_append, List.nil_append, Act.eval, Array.getD_eq_getD_getElem?, List.getElem?_toArray, List.getElem?_cons_succ, List.getElem?_cons_zero, Option.getD_some] at S)) | (show Oper.wp _ ⟨_, .buildSlice _ _ _, _, _, _, _⟩ _ _ _ _; refine wp_buildSlice2 S rfl rfl rfl rfl rfl rfl rfl ?_; clear S; intro b w1 S; (try simp only [Value.cells, List.toList_toArray, List.cons_append, List.nil_append, Act.eval, Array.getD_eq_getD_getElem?, List.getElem?_toArray, List.getElem?_cons_succ, List.getElem?_cons_zero, Option.getD_some] at S)) | (show Oper.wp _ ⟨_, .buildSlice _ _ _, _, _, _, _⟩ _ _ _ _; refine wp_buildSlice3 S rfl rfl rfl rfl rfl rfl rfl rfl rfl rfl ?_; clear S; intro b w1 S; (try simp only [Value.cells, List.toList_toArray, List.cons_append, List.nil_append, Act.eval, Array.getD_eq_getD_getElem?, List.getElem?_toArray, List.getElem?_cons_succ, List.getElem?_cons_zero, Option.getD_some] at S)) | (show Oper.wp _ ⟨_, .buildSlice _ _ _, _, _, _, _⟩ _ _ _ _; refine wp_buildSlice4 S rfl rfl rfl rfl rfl rfl rfl rfl rfl rfl rfl rfl rfl ?_; clear S; intro b w1 S; (try simp only [Value.cells, List.toList_toArray, List.cons_append, List.nil_append, Act.eval, Array.getD_eq_getD_getElem?, List.getElem?_toArray, List.getElem?_cons_succ, List.getElem?_cons_zero, Option.getD_some] at S)) | (show Oper.wp _ ⟨_, .buildSlice _ _ _, _, _, _, _⟩ _ _ _ _; refine wp_buildSlice5 S rfl rfl rfl rfl rfl rfl rfl rfl rfl rfl rfl rfl rfl rfl rfl rfl ?_; clear S; intro b w1 S; (try simp only [Value.cells, List.toList_toArray, List.cons_append, List.nil_append, Act.eval, Array.getD_eq_getD_getElem?, List.getElem?_toArray, List.getElem?_cons_succ, List.getElem?_cons_zero, Option.getD_some] at S)) | (show Oper.wp _ ⟨_, .range _ _, _, _, _, _⟩ _ _ _ _; refine wp_rangeMap S rfl (by with_reducible (repeat (first | exact Has.head | refine Has.tail ?_))) ?_; clear S; intro it w1 S) | (show Oper.wp _ ⟨_, .next _ _, _, _, _, _⟩ _ _ _ _; refine wp_next S rfl (by with_reducible (repeat (first | exact Out.head | apply Out.tail))) (by with_reducible (repeat (first | exact Has.head | refine Has.tail ?_))) (by assumption) ?_ ?_ <;> clear S <;> first | (intro en hen hnew w1 S) | (intro hdone w1 S)) | (show Oper.wp _ ⟨_, .entry _, _, _, _, _⟩ _ _ _ _; refine wp_entry S en rfl (by with_reducible (repeat (first | exact Has.head | refine Has.tail ?_))) (by with_reducible (repeat (first | exact Has.head | refine Has.tail ?_))) (by assumption) (by assumption) ?_) | (show Oper.wp _ ⟨_, .makeMap _ _, _, _, _, _⟩ _ _ _ _; refine wp_makeMap S keyE Ch.val ?_; clear S; intro rm w1 S) | (show Oper.wp _ ⟨_, .call ⟨.builtin .len, _, _⟩, _, _, _, _⟩ _ _ _ _; refine wp_lenMap S rfl (by with_reducible (repeat (first | exact Has.head | refine Has.tail ?_))) ?_) | (show Oper.wp _ ⟨_, .call ⟨.builtin .append, _, _⟩, _, _, _, _⟩ _ _ _ _; refine wp_appendOwn S rfl rfl (by with_reducible (repeat (first | exact Out.head | apply Out.tail))) (by with_reducible (repeat (first | exact Has.head | refine Has.tail ?_))) rfl rfl (by assumption) (by assumption) ?_; clear S; intro va w1 S hva) | (show Oper.wp _ ⟨_, .store _ _ _, _, _, _, _⟩ _ _ _ _; refine wp_store S rfl rfl rfl (by with_reducible (repeat (first | exact Upd.head | apply Upd.tail))) (by first | exact .inl (Nat.le_refl _) | exact .inr (Nat.le_refl _)) rfl rfl rfl rfl ?_; clear S; intro w1 S; simp only [List.set_cons_zero, List.set_cons_succ, setL, Act.eval, Array.getD_eq_getD_getElem?, List.getElem?_toArray, List.getElem?_cons_succ, List.getElem?_cons_zero, Option.getD_some] at S) | (show Oper.wp _ ⟨_, .binOp .eql _ _ _ _, _, _, _, _⟩ _ _ _ _; refine wp_eqAgg rfl rfl rfl rfl ?_; simp only [eqCells, eqVal, Bool.and_true]) | (show Oper.wp _ ⟨_, .binOp .eql _ _ _ _, _, _, _, _⟩ _ _ _ _; refine wp_eqSliceNil rfl rfl ?_; simp only [Option.isNone_none, Option.isNone_some]) | (show Oper.wp _ ⟨_, .binOp .eql _ _ _ _, _, _, _, _⟩ _ _ _ _; refine wp_eqMapNil rfl rfl ?_; simp only [Option.isNone_none, Option.isNone_some]) | (show Oper.wp _ ⟨_, .binOp .neq _ _ _ _, _, _, _, _⟩ _ _ _ _; refine wp_neAgg rfl rfl rfl rfl ?_; simp only [eqCells, eqVal, Bool.and_true])) <;> simp only [Act.put, List.setIfInBounds_toArray, List.set_cons_zero, List.set_cons_succ, List.drop_zero, List.drop_succ_cons, List.take_succ_cons, List.take_zero, setL])
    | (go_at_call 167; refine (EqF_nil _ _).mono ?_; rintro e w1 ⟨rfl, rfl⟩; (try dsimp only))
    | go_step)
  go_ret
  exact ⟨rfl, rfl⟩
theorem Eq105_nil (w : World) : Calls Tryz.prog 105 #[.slice none 0 0, .slice none 0 0] w fun e w' => e = .returned (.bool true) ∧ w = w' := by
  go_enter Tryz.func105, Tryz.ntmps105
  go_wp2
  go_loopw [13] (fun i wr => i = .int .i64 0 ∧ w = wr) (fun i _ => 0)
  case atStart => exact ⟨rfl, rfl⟩
  case round =>
    obtain ⟨rfl, rfl⟩ := hrel
    go_wp2
    go_ret
    exact ⟨rfl, rfl⟩
theorem Eq106_nil (w : World) : Calls Tryz.prog 106 #[.slice none 0 0, .slice none 0 0] w fun e w' => e = .returned (.bool true) ∧ w = w' := by
  go_enter Tryz.func106, Tryz.ntmps106
  go_wp2
  go_loopw [13] (fun i wr => i = .int .i64 0 ∧ w = wr) (fun i _ => 0)
  case atStart => exact ⟨rfl, rfl⟩
  case round =>
    obtain ⟨rfl, rfl⟩ := hrel
    go_wp2
    go_ret
    exact ⟨rfl, rfl⟩
theorem Eq107_nil (w : World) : Calls Tryz.prog 107 #[.slice none 0 0, .slice none 0 0] w fun e w' => e = .returned (.bool true) ∧ w = w' := by
  go_enter Tryz.func107, Tryz.ntmps107
  go_wp2
  go_loopw [13] (fun i wr => i = .int .i64 0 ∧ w = wr) (fun i _ => 0)
  case atStart => exact ⟨rfl, rfl⟩
  case round =>
    obtain ⟨rfl, rfl⟩ := hrel
    go_wp2
    go_ret
    exact ⟨rfl, rfl⟩
set_option maxHeartbeats 8000000 in
theorem Same_flat (x y : Atr) (w : World) : Calls Tryz.prog 47 #[x.val, y.val] w fun e w' => e = .returned (.bool (decide (x = y))) ∧ Mod Nil w w' := by
  have S := St.init Nil w
  obtain ⟨o, h, m⟩ := x
  obtain ⟨o', h', m'⟩ := y
  simp only [Atr.val, Atr.cells]
  go_enter Tryz.func47, Tryz.ntmps47
  simp only [List.append_eq, List.cons_append, List.nil_append]
  repeat' (first
    | go_big_hide
    | go_big_move
    | go_big_cond
    | go_big_open
    | (show wpList _ _ _ (⟨_, _, _, _, _, some _⟩ :: _) _ _; first | (refine wpList_g rfl ?_ ?_ <;> (intro hc; (try simp only [Bool.not_true, Bool.not_false, reduceCtorEq] at hc); (try (change True at hc; clear hc)); (try simp only [hc, Bool.not_true, Bool.not_false]); (try simp only [Act.put, List.setIfInBounds_toArray, List.set_cons_zero, List.set_cons_succ, List.drop_zero, List.drop_succ_cons, List.take_succ_cons, List.take_zero, setL]))) | (refine wpList_g0 rfl ?_; (try simp only [Act.put, List.setIfInBounds_toArray, List.set_cons_zero, List.set_cons_succ, List.drop_zero, List.drop_succ_cons, List.take_succ_cons, List.take_zero, setL])))
    | (show Oper.wp _ _ _ _ _ _; (first | (show Oper.wp _ ⟨_, .box _ _, _, _, _, _⟩ _ _ _ _; refine wp_box S rfl rfl ?_; clear S; intro b w1 S) | (show Oper.wp _ ⟨_, .alloc _, _, _, _, _⟩ _ _ _ _; refine wp_alloc S rfl ?_; clear S; intro b w1 S; (try simp only [Value.cells, List.toList_toArray] at S)) | (show Oper.wp _ ⟨_, .load _ _, _, _, _, _⟩ _ _ _ _; refine wp_load1 S rfl (by with_reducible (repeat (first | exact Has.head | refine Has.tail ?_))) rfl ?_) | (show Oper.wp _ ⟨_, .load _ _, _, _, _, _⟩ _ _ _ _; refine wp_loadN S rfl (by with_reducible (repeat (first | exact Has.head | refine Has.tail ?_))) rfl rfl ?_) | (show Oper.wp _ ⟨_, .buildSlice _ _ _, _, _, _, _⟩ _ _ _ _; refine wp_buildSlice1 S rfl rfl rfl rfl ?_; clear S; intro b w1 S; (try simp only [Value.cells, List.toList_toArray, List.cons_append, List.nil_append, Act.eval, Array.getD_eq_getD_getElem?, List.getElem?_toArray, List.getElem?_cons_succ, List.getElem?_cons_zero, Option.getD_some] at S)) | (show Oper.wp _ ⟨_, .buildSlice _ _ _, _, _, _, _⟩ _ _ _ _; refine wp_buildSlice2 S rfl rfl rfl rfl rfl rfl rfl ?_; clear S; intro b w1 S; (try simp only [Value.cells, List.toList_toArray, List.cons_append, List.nil_append, Act.eval, Array.getD_eq_getD_getElem?, List.getElem?_toArray, List.getElem?_cons_succ, List.getElem?_cons_zero, Option.getD_some] at S)) | (show Oper.wp _ ⟨_, .buildSlice _ _ _, _, _, _, _⟩ _ _ _ _; refine wp_buildSlice3 S rfl rfl rfl rfl rfl rfl rfl rfl rfl rfl ?_; clear S; intro b w1 S; (try simp only [Value.cells, List.toList_toArray, List.cons_append, List.nil_append, Act.eval, Array.getD_eq_getD_getElem?, List.getElem?_toArray, List.getElem?_cons_succ, List.getElem?_cons_zero, Option.getD_some] at S)) | (show Oper.wp _ ⟨_, .buildSlice _ _ _, _, _, _, _⟩ _ _ _ _; refine wp_buildSlice4 S rfl rfl rfl rfl rfl rfl rfl rfl rfl rfl rfl rfl rfl ?_; clear S; intro b w1 S; (try simp only [Value.cells, List.toList_toArray, List.cons_append, List.nil_append, Act.eval, Array.getD_eq_getD_getElem?, List.getElem?_toArray, List.getElem?_cons_succ, List.getElem?_cons_zero, Option.getD_some] at S)) | (show Oper.wp _ ⟨_, .buildSlice _ _ _, _, _, _, _⟩ _ _ _ _; refine wp_buildSlice5 S rfl rfl rfl rfl rfl rfl rfl rfl rfl rfl rfl rfl rfl rfl rfl rfl ?_; clear S; intro b w1 S; (try simp only [Value.cells, List.toList_toArray, List.cons_append, List.nil_append, Act.eval, Array.getD_eq_getD_getElem?, List.getElem?_toArray, List.getElem?_cons_succ, List.getElem?_cons_zero, Option.getD_some] at S)) | (show Oper.wp _ ⟨_, .range _ _, _, _, _, _⟩ _ _ _ _; refine wp_rangeMap S rfl (by with_reducible (repeat (first | exact Has.head | refine Has.tail ?_))) ?_; clear S; intro it w1 S) | (show Oper.wp _ ⟨_, .next _ _, _, _, _, _⟩ _ _ _ _; refine wp_next S rfl (by with_reducible (repeat (first | exact Out.head | apply Out.tail))) (by with_reducible (repeat (first | exact Has.head | refine Has.tail ?_))) (by assumption) ?_ ?_ <;> clear S <;> first | (intro en hen hnew w1 S) | (intro hdone w1 S)) | (show Oper.wp _ ⟨_, .entry _, _, _, _, _⟩ _ _ _ _; refine wp_entry S en rfl (by with_reducible (repeat (first | exact Has.head | refine Has.tail ?_))) (by with_reducible (repeat (first | exact Has.head | refine Has.tail ?_))) (by assumption) (by assumption) ?_) | (show Oper.wp _ ⟨_, .makeMap _ _, _, _, _, _⟩ _ _ _ _; refine wp_makeMap S keyE Ch.val ?_; clear S; intro rm w1 S) | (show Oper.wp _ ⟨_, .call ⟨.builtin .len, _, _⟩, _, _, _, _⟩ _ _ _ _; refine wp_lenMap S rfl (by with_reducible (repeat (first | exact Has.head | refine Has.tail ?_))) ?_) | (show Oper.wp _ ⟨_, .call ⟨.builtin .append, _, _⟩, _, _, _, _⟩ _ _ _ _; refine wp_appendOwn S rfl rfl (by with_reducible (repeat (first | exact Out.head | apply Out.tail))) (by with_reducible (repeat (first | exact Has.head | refine Has.tail ?_))) rfl rfl (by assumption) (by assumption) ?_; clear S; intro va w1 S hva) | (show Oper.wp _ ⟨_, .store _ _ _, _, _, _, _⟩ _ _ _ _; refine wp_store S rfl rfl rfl (by with_reducible (repeat (first | exact Upd.head | apply Upd.tail))) (by first | exact .inl (Nat.le_refl _) | exact .inr (Nat.le_refl _)) rfl rfl rfl rfl ?_; clear S; intro w1 S; simp only [List.set_cons_zero, List.set_cons_succ, setL, Act.eval, Array.getD_eq_getD_getElem?, List.getElem?_toArray, List.getElem?_cons_succ, List.getElem?_cons_zero, Option.getD_some] at S) | (show Oper.wp _ ⟨_, .binOp .eql _ _ _ _, _, _, _, _⟩ _ _ _ _; refine wp_eqAgg rfl rfl rfl rfl ?_; simp only [eqCells, eqVal, Bool.and_true]) | (show Oper.wp _ ⟨_, .binOp .eql _ _ _ _, _, _, _, _⟩ _ _ _ _; refine wp_eqSliceNil rfl rfl ?_; simp only [Option.isNone_none, Option.isNone_some]) | (show Oper.wp _ ⟨_, .binOp .eql _ _ _ _, _, _, _, _⟩ _ _ _ _; refine wp_eqMapNil rfl rfl ?_; simp only [Option.isNone_none, Option.isNone_some]) | (show Oper.wp _ ⟨_, .binOp .neq _ _ _ _, _, _, _, _⟩ _ _ _ _; refine wp_neAgg rfl rfl rfl rfl ?_; simp only [eqCells, eqVal, Bool.and_true])) <;> simp only [Act.put, List.setIfInBounds_toArray, List.set_cons_zero, List.set_cons_succ, List.drop_zero, List.drop_succ_cons, List.take_succ_cons, List.take_zero, setL])
    | (go_at_call 104; refine (aspSame_nil _).mono ?_; rintro e w1 ⟨rfl, rfl⟩; (try dsimp only))
    | (go_at_call 105; refine (Eq105_nil _).mono ?_; rintro e w1 ⟨rfl, rfl⟩; (try dsimp only))
    | (go_at_call 106; refine (Eq106_nil _).mono ?_; rintro e w1 ⟨rfl, rfl⟩; (try dsimp only))
    | (go_at_call 107; refine (Eq107_nil _).mono ?_; rintro e w1 ⟨rfl, rfl⟩; (try dsimp only))
    | go_step)
  all_goals go_ret
  all_goals refine ⟨?_, S.mod⟩
  all_goals clear S
  all_goals (first | (rw [decide_eq_true (by simp_all)]; rfl) | (rw [decide_eq_false (by simp_all)]; rfl))
end Go.Proofs.T
