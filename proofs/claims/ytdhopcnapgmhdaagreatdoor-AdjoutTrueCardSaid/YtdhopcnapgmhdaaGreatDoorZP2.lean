/-
  Walks: what functions of the program return and which memory they touch.
-/
import Derived.Test.YtdhopcnapgmhdaaGreatDoorZP1
set_option linter.unusedSimpArgs false
set_option linter.unusedVariables false
set_option linter.unusedSectionVars false
open Go Go.RowKit Go.Proofs Go.Sx Go.Hd
namespace Go.Proofs.T
attribute [local irreducible] Oper.wp Calls Code.wp wpList HD

set_option maxHeartbeats 1000000 in
theorem Size_any (fam : Int) (w : World) : Calls Tryz.prog 69 #[.int .i64 fam] w fun e w' => e = .returned (.int .i64 (Hd.sizeOf fam)) ∧ w = w' := by
  go_enter Tryz.func69, Tryz.ntmps69
  go_wp2
  all_goals go_ret
  all_goals refine ⟨?_, rfl⟩
  all_goals (simp only [Hd.sizeOf, Ending.returned.injEq, Value.int.injEq, true_and])
  all_goals (repeat' split)
  all_goals (first | rfl | (exfalso; simp_all; done) | (exfalso; omega) | skip)
theorem apart_any (fam : Int) (w : World) : Calls Tryz.prog 150 #[.int .i64 fam] w fun e w' => e = .returned (.bool (apartB fam)) ∧ w = w' := by
  go_enter Tryz.func150, Tryz.ntmps150
  go_wp2
  all_goals go_ret
  all_goals refine ⟨?_, rfl⟩
  all_goals (first | rfl | (rename_i h; subst h; rfl))
set_option maxRecDepth 100000 in
set_option maxHeartbeats 1000000 in
theorem Check_any (p : Pfx) (w : World) (hl : p.addr.length < 2 ^ 62):
    Calls Tryz.prog 88 #[p.val] w fun e w' => e = .returned (.int .i64 (chkP p)) ∧ Mod Nil w w' := by
  have S := St.init Nil w
  obtain ⟨fam, rd, addr, len⟩ := p
  have hz := sizeOf_cases fam
  have hw : wrap64 (8 * Hd.sizeOf fam) = 8 * Hd.sizeOf fam := by rcases hz with h | h | h <;> rw [h] <;> (unfold wrap64; omega)
  simp only [Pfx.val, Pfx.cells]
  go_enter Tryz.func88, Tryz.ntmps88
  repeat' (first
    | go_big_hide
    | go_big_move
    | go_big_cond
    | go_big_open
    | (show wpList _ _ _ (⟨_, _, _, _, _, some _⟩ :: _) _ _; first | (refine wpList_g rfl ?_ ?_ <;> (intro hc; (try simp only [Bool.not_true, Bool.not_false, reduceCtorEq] at hc); (try (change True at hc; clear hc)); (try simp only [hc, Bool.not_true, Bool.not_false]); (try simp only [Act.put, List.setIfInBounds_toArray, List.set_cons_zero, List.set_cons_succ, List.drop_zero, List.drop_succ_cons, List.take_succ_cons, List.take_zero, setL]))) | (refine wpList_g0 rfl ?_; (try simp only [Act.put, List.setIfInBounds_toArray, List.set_cons_zero, List.set_cons_succ, List.drop_zero, List.drop_succ_cons, List.take_succ_cons, List.take_zero, setL])))
    | (show Oper.wp _ _ _ _ _ _; (first | (show Oper.wp _ ⟨_, .box _ _, _, _, _, _⟩ _ _ _ _; refine wp_box S rfl rfl ?_; clear S; intro b w1 S) | (show Oper.wp _ ⟨_, .alloc _, _, _, _, _⟩ _ _ _ _; refine wp_alloc S rfl ?_; clear S; intro b w1 S; (try simp only [Value.cells, List.toList_toArray] at S)) | (show Oper.wp _ ⟨_, .load _ _, _, _, _, _⟩ _ _ _ _; refine wp_load1 S rfl (by with_reducible (repeat (first | exact Has.head | refine Has.tail ?_))) rfl ?_) | (show Oper.wp _ ⟨_, .load _ _, _, _, _, _⟩ _ _ _ _; refine wp_loadN S rfl (by with_reducible (repeat (first | exact Has.head | refine Has.tail ?_))) rfl rfl ?_) | (show Oper.wp _ ⟨_, .buildSlice _ _ _, _, _, _, _⟩ _ _ _ _; refine wp_buildSlice1 S rfl rfl rfl rfl ?_; clear S; intro b w1 S; (try simp only [Value.cells, List.toList_toArray, List.cons_append, List.nil_append, Act.eval, Array.getD_eq_getD_getElem?, List.getElem?_toArray, List.getElem?_cons_succ, List.getElem?_cons_zero, Option.getD_some] at S)) | (show Oper.wp _ ⟨_, .buildSlice _ _ _, _, _, _, _⟩ _ _ _ _; refine wp_buildSlice2 S rfl rfl rfl rfl rfl rfl rfl ?_; clear S; intro b w1 S; (try simp only [Value.cells, List.toList_toArray, List.cons_append, List.nil_append, Act.eval, Array.getD_eq_getD_getElem?, List.getElem?_toArray, List.getElem?_cons_succ, List.getElem?_cons_zero, Option.getD_some] at S)) | (show Oper.wp _ ⟨_, .buildSlice _ _ _, _, _, _, _⟩ _ _ _ _; refine wp_buildSlice3 S rfl rfl rfl rfl rfl rfl rfl rfl rfl rfl ?_; clear S; intro b w1 S; (try simp only [Value.cells, List.toList_toArray, List.cons_append, List.nil_append, Act.eval, Array.getD_eq_getD_getElem?, List.getElem?_toArray, List.getElem?_cons_succ, List.getElem?_cons_zero, Option.getD_some] at S)) | (show Oper.wp _ ⟨_, .buildSlice _ _ _, _, _, _, _⟩ _ _ _ _; refine wp_buildSlice4 S rfl rfl rfl rfl rfl rfl rfl rfl rfl rfl rfl rfl rfl ?_; clear S; intro b w1 S; (try simp only [Value.cells, List.toList_toArray, List.cons_append, List.nil_append, Act.eval, Array.getD_eq_getD_getElem?, List.getElem?_toArray, List.getElem?_cons_succ, List.getElem?_cons_zero, Option.getD_some] at S)) | (show Oper.wp _ ⟨_, .buildSlice _ _ _, _, _, _, _⟩ _ _ _ _; refine wp_buildSlice5 S rfl rfl rfl rfl rfl rfl rfl rfl rfl rfl rfl rfl rfl rfl rfl rfl ?_; clear S; intro b w1 S; (try simp only [Value.cells, List.toList_toArray, List.cons_append, List.nil_append, Act.eval, Array.getD_eq_getD_getElem?, List.getElem?_toArray, List.getElem?_cons_succ, List.getElem?_cons_zero, Option.getD_some] at S)) | (show Oper.wp _ ⟨_, .range _ _, _, _, _, _⟩ _ _ _ _; refine wp_rangeMap S rfl (by with_reducible (repeat (first | exact Has.head | refine Has.tail ?_))) ?_; clear S; intro it w1 S) | (show Oper.wp _ ⟨_, .next _ _, _, _, _, _⟩ _ _ _ _; refine wp_next S rfl (by with_reducible (repeat (first | exact Out.head | apply Out.tail))) (by with_reducible (repeat (first | exact Has.head | refine Has.tail ?_))) (by assumption) ?_ ?_ <;> clear S <;> first | (intro en hen hnew w1 S) | (intro hdone w1 S)) | (show Oper.wp _ ⟨_, .entry _, _, _, _, _⟩ _ _ _ _; refine wp_entry S en rfl (by with_reducible (repeat (first | exact Has.head | refine Has.tail ?_))) (by with_reducible (repeat (first | exact Has.head | refine Has.tail ?_))) (by assumption) (by assumption) ?_) | (show Oper.wp _ ⟨_, .makeMap _ _, _, _, _, _⟩ _ _ _ _; refine wp_makeMap S keyE Ch.val ?_; clear S; intro rm w1 S) | (show Oper.wp _ ⟨_, .call ⟨.builtin .len, _, _⟩, _, _, _, _⟩ _ _ _ _; refine wp_lenMap S rfl (by with_reducible (repeat (first | exact Has.head | refine Has.tail ?_))) ?_) | (show Oper.wp _ ⟨_, .call ⟨.builtin .append, _, _⟩, _, _, _, _⟩ _ _ _ _; refine wp_appendOwn S rfl rfl (by with_reducible (repeat (first | exact Out.head | apply Out.tail))) (by with_reducible (repeat (first | exact Has.head | refine Has.tail ?_))) rfl rfl (by assumption) (by assumption) ?_; clear S; intro va w1 S hva) | (show Oper.wp _ ⟨_, .store _ _ _, _, _, _, _⟩ _ _ _ _; refine wp_store S rfl rfl rfl (by with_reducible (repeat (first | exact Upd.head | apply Upd.tail))) (by first | exact .inl (Nat.le_refl _) | exact .inr (Nat.le_refl _)) rfl rfl rfl rfl ?_; clear S; intro w1 S; simp only [List.set_cons_zero, List.set_cons_succ, setL, Act.eval, Array.getD_eq_getD_getElem?, List.getElem?_toArray, List.getElem?_cons_succ, List.getElem?_cons_zero, Option.getD_some] at S) | (show Oper.wp _ ⟨_, .binOp .eql _ _ _ _, _, _, _, _⟩ _ _ _ _; refine wp_eqAgg rfl rfl rfl rfl ?_; simp only [eqCells, eqVal, Bool.and_true]) | (show Oper.wp _ ⟨_, .binOp .eql _ _ _ _, _, _, _, _⟩ _ _ _ _; refine wp_eqSliceNil rfl rfl ?_; simp only [Option.isNone_none, Option.isNone_some]) | (show Oper.wp _ ⟨_, .binOp .eql _ _ _ _, _, _, _, _⟩ _ _ _ _; refine wp_eqMapNil rfl rfl ?_; simp only [Option.isNone_none, Option.isNone_some]) | (show Oper.wp _ ⟨_, .binOp .neq _ _ _ _, _, _, _, _⟩ _ _ _ _; refine wp_neAgg rfl rfl rfl rfl ?_; simp only [eqCells, eqVal, Bool.and_true])) <;> simp only [Act.put, List.setIfInBounds_toArray, List.set_cons_zero, List.set_cons_succ, List.drop_zero, List.drop_succ_cons, List.take_succ_cons, List.take_zero, setL])
    | (go_at_call 69; refine (Size_any _ _).mono ?_; rintro e w1 ⟨rfl, rfl⟩; (try dsimp only))
    | go_step)
  refine wp_region_D (fun w' => St Nil w w' _) mixed (by kernel_rfl) S.drew ?_
  clear S
  repeat' (first
    | (apply HD_op rfl rfl
       case' h =>
         intro wz S K hK
         repeat' (first
           | (go_at_K; exact hK _ S)
           | go_big_hide
           | go_big_move
           | go_big_cond
           | go_big_open
           | (show Oper.wp _ _ _ _ _ _; (first | (show Oper.wp _ ⟨_, .box _ _, _, _, _, _⟩ _ _ _ _; refine wp_box S rfl rfl ?_; clear S; intro b w1 S) | (show Oper.wp _ ⟨_, .alloc _, _, _, _, _⟩ _ _ _ _; refine wp_alloc S rfl ?_; clear S; intro b w1 S; (try simp only [Value.cells, List.toList_toArray] at S)) | (show Oper.wp _ ⟨_, .load _ _, _, _, _, _⟩ _ _ _ _; refine wp_load1 S rfl (by with_reducible (repeat (first | exact Has.head | refine Has.tail ?_))) rfl ?_) | (show Oper.wp _ ⟨_, .load _ _, _, _, _, _⟩ _ _ _ _; refine wp_loadN S rfl (by with_reducible (repeat (first | exact Has.head | refine Has.tail ?_))) rfl rfl ?_) | (show Oper.wp _ ⟨_, .buildSlice _ _ _, _, _, _, _⟩ _ _ _ _; refine wp_buildSlice1 S rfl rfl rfl rfl ?_; clear S; intro b w1 S; (try simp only [Value.cells, List.toList_toArray, List.cons_append, List.nil_append, Act.eval, Array.getD_eq_getD_getElem?, List.getElem?_toArray, List.getElem?_cons_succ, List.getElem?_cons_zero, Option.getD_some] at S)) | (show Oper.wp _ ⟨_, .buildSlice _ _ _, _, _, _, _⟩ _ _ _ _; refine wp_buildSlice2 S rfl rfl rfl rfl rfl rfl rfl ?_; clear S; intro b w1 S; (try simp only [Value.cells, List.toList_toArray, List.cons_append, List.nil_append, Act.eval, Array.getD_eq_getD_getElem?, List.getElem?_toArray, List.getElem?_cons_succ, List.getElem?_cons_zero, Option.getD_some] at S)) | (show Oper.wp _ ⟨_, .buildSlice _ _ _, _, _, _, _⟩ _ _ _ _; refine wp_buildSlice3 S rfl rfl rfl rfl rfl rfl rfl rfl rfl rfl ?_; clear S; intro b w1 S; (try simp only [Value.cells, List.toList_toArray, List.cons_append, List.nil_append, Act.eval, Array.getD_eq_getD_getElem?, List.getElem?_toArray, List.getElem?_cons_succ, List.getElem?_cons_zero, Option.getD_some] at S)) | (show Oper.wp _ ⟨_, .buildSlice _ _ _, _, _, _, _⟩ _ _ _ _; refine wp_buildSlice4 S rfl rfl rfl rfl rfl rfl rfl rfl rfl rfl rfl rfl rfl ?_; clear S; intro b w1 S; (try simp only [Value.cells, List.toList_toArray, List.cons_append, List.nil_append, Act.eval, Array.getD_eq_getD_getElem?, List.getElem?_toArray, List.getElem?_cons_succ, List.getElem?_cons_zero, Option.getD_some] at S)) | (show Oper.wp _ ⟨_, .buildSlice _ _ _, _, _, _, _⟩ _ _ _ _; refine wp_buildSlice5 S rfl rfl rfl rfl rfl rfl rfl rfl rfl rfl rfl rfl rfl rfl rfl rfl ?_; clear S; intro b w1 S; (try simp only [Value.cells, List.toList_toArray, List.cons_append, List.nil_append, Act.eval, Array.getD_eq_getD_getElem?, List.getElem?_toArray, List.getElem?_cons_succ, List.getElem?_cons_zero, Option.getD_some] at S)) | (show Oper.wp _ ⟨_, .range _ _, _, _, _, _⟩ _ _ _ _; refine wp_rangeMap S rfl (by with_reducible (repeat (first | exact Has.head | refine Has.tail ?_))) ?_; clear S; intro it w1 S) | (show Oper.wp _ ⟨_, .next _ _, _, _, _, _⟩ _ _ _ _; refine wp_next S rfl (by with_reducible (repeat (first | exact Out.head | apply Out.tail))) (by with_reducible (repeat (first | exact Has.head | refine Has.tail ?_))) (by assumption) ?_ ?_ <;> clear S <;> first | (intro en hen hnew w1 S) | (intro hdone w1 S)) | (show Oper.wp _ ⟨_, .entry _, _, _, _, _⟩ _ _ _ _; refine wp_entry S en rfl (by with_reducible (repeat (first | exact Has.head | refine Has.tail ?_))) (by with_reducible (repeat (first | exact Has.head | refine Has.tail ?_))) (by assumption) (by assumption) ?_) | (show Oper.wp _ ⟨_, .makeMap _ _, _, _, _, _⟩ _ _ _ _; refine wp_makeMap S keyE Ch.val ?_; clear S; intro rm w1 S) | (show Oper.wp _ ⟨_, .call ⟨.builtin .len, _, _⟩, _, _, _, _⟩ _ _ _ _; refine wp_lenMap S rfl (by with_reducible (repeat (first | exact Has.head | refine Has.tail ?_))) ?_) | (show Oper.wp _ ⟨_, .call ⟨.builtin .append, _, _⟩, _, _, _, _⟩ _ _ _ _; refine wp_appendOwn S rfl rfl (by with_reducible (repeat (first | exact Out.head | apply Out.tail))) (by with_reducible (repeat (first | exact Has.head | refine Has.tail ?_))) rfl rfl (by assumption) (by assumption) ?_; clear S; intro va w1 S hva) | (show Oper.wp _ ⟨_, .store _ _ _, _, _, _, _⟩ _ _ _ _; refine wp_store S rfl rfl rfl (by with_reducible (repeat (first | exact Upd.head | apply Upd.tail))) (by first | exact .inl (Nat.le_refl _) | exact .inr (Nat.le_refl _)) rfl rfl rfl rfl ?_; clear S; intro w1 S; simp only [List.set_cons_zero, List.set_cons_succ, setL, Act.eval, Array.getD_eq_getD_getElem?, List.getElem?_toArray, List.getElem?_cons_succ, List.getElem?_cons_zero, Option.getD_some] at S) | (show Oper.wp _ ⟨_, .binOp .eql _ _ _ _, _, _, _, _⟩ _ _ _ _; refine wp_eqAgg rfl rfl rfl rfl ?_; simp only [eqCells, eqVal, Bool.and_true]) | (show Oper.wp _ ⟨_, .binOp .eql _ _ _ _, _, _, _, _⟩ _ _ _ _; refine wp_eqSliceNil rfl rfl ?_; simp only [Option.isNone_none, Option.isNone_some]) | (show Oper.wp _ ⟨_, .binOp .eql _ _ _ _, _, _, _, _⟩ _ _ _ _; refine wp_eqMapNil rfl rfl ?_; simp only [Option.isNone_none, Option.isNone_some]) | (show Oper.wp _ ⟨_, .binOp .neq _ _ _ _, _, _, _, _⟩ _ _ _ _; refine wp_neAgg rfl rfl rfl rfl ?_; simp only [eqCells, eqVal, Bool.and_true])))
           | (go_at_call 150; refine (apart_any _ _).mono ?_; rintro e w1 ⟨rfl, rfl⟩; (try dsimp only))
           | (go_at_call 151; refine (masked_any _ _ _ (by clear S; simp [hw] at *; omega) (by clear S; simp [hw] at *; omega) (by clear S; simp [hw] at *; omega)).mono ?_; rintro e w1 ⟨rfl, hm⟩; replace S := S.step hm; (try dsimp only))
           | go_step)
       simp only [Act.put, List.setIfInBounds_toArray, List.set_cons_zero, List.set_cons_succ, List.drop_zero, List.drop_succ_cons, List.take_succ_cons, List.take_zero, setL])
    | (refine HD_skip rfl ?_; simp only [Act.put, List.setIfInBounds_toArray, List.set_cons_zero, List.set_cons_succ, List.drop_zero, List.drop_succ_cons, List.take_succ_cons, List.take_zero, setL])
    | (refine HD_by rfl rfl ?_ ?_ <;> (intro hc; simp only [hc, Bool.not_true, Bool.not_false]))
    | (refine HD_nil ?_; intro w1 S))
  all_goals clear hl
  all_goals go_wp2
  all_goals go_ret
  all_goals refine ⟨?_, S.mod⟩
  all_goals clear S
  all_goals simp only [chkP, okP]
  all_goals simp [hw] at *
  all_goals clear hw
  all_goals (first | (exfalso; omega) | (intros; omega) | (refine ⟨?_, ?_, ?_, ?_, ?_, ?_⟩ <;> first | assumption | omega | (exact .inr ‹_›) | (exact .inl ‹_›)) | (intros; assumption) | (rintro - - - - (h | h) <;> first | contradiction | cases ‹apartB fam = false›.symm.trans h)  | (intro h; exfalso; revert h; simp_all [Hd.sizeOf]; done))
end Go.Proofs.T
